/- Layout: tell and after. Layout: after. Layout: Take, Peek, Wrong. -/
import Derived.Test.YtnidkdjapieinaaDoorLyI
namespace Go.Proofs.YtnidkdjapieinaaDoor
open Go.RowKit Go.Shelf
set_option linter.unusedSimpArgs false
set_option linter.unusedVariables false

set_option maxRecDepth 100000 in
set_option maxHeartbeats 8000000 in
theorem tell_yes (k n a l c at_ e : Int) (u : ByteArray) (f i m : Bool) (p1 p2 p3 : Option Addr) (n1 c1 n2 c2 n3 c3 : Nat) (w : World) :
    Calls Tryd.prog 114 #[.agg #[.int .i64 k, .string u, .int .i64 n, .int .i64 a, .int .i64 l, .int .i64 c, .bool f, .bool i], .agg #[.slice p1 n1 c1, .slice p2 n2 c2, .int .i64 at_, .slice p3 n3 c3, .int .i64 e, .bool m]] w fun ex w' =>
      ex = .returned (.tuple #[.agg #[.int .i64 k, .string u, .int .i64 n, .int .i64 a, .int .i64 l, .int .i64 c, .bool f, .bool i], .agg #[.slice p1 n1 c1, .slice p2 n2 c2, .int .i64 at_, .slice p3 n3 c3, .int .i64 e, .bool m], .int .i64 0]) ∧ Below w.heap.size w w' := by
  go_enter Tryd.func114, Tryd.ntmps114
  go_wp2
  go_region
  go_wp2
  refine bodyPost_ret (v := .tuple #[.agg #[.int .i64 k, .string u, .int .i64 n, .int .i64 a, .int .i64 l, .int .i64 c, .bool f, .bool i], .agg #[.slice p1 n1 c1, .slice p2 n2 c2, .int .i64 at_, .slice p3 n3 c3, .int .i64 e, .bool m], .int .i64 0]) (by simp [results, Tryd.results114, go_sem]) rfl ?_
  exact ⟨rfl, by ((repeat (first | exact Below.refl _ _ | (refine Below.alloc ?_ (by first | (simp [World.setCell]; done) | (simp [World.setCell]; omega)) _) | (refine Below.setCell ?_ (by first | (simp [World.setCell]; done) | (simp [World.setCell]; omega)) _) | refine Below.drew ?_ | (refine Below.trans ?_ ((below_drewN _ _).mono (by first | (simp [World.setCell]; done) | (simp [World.setCell]; omega)))))))⟩
set_option maxRecDepth 100000 in
set_option maxHeartbeats 8000000 in
theorem tell_over (at_ e : Int) (m : Bool) (p1 p2 p3 : Option Addr) (n1 c1 n2 c2 n3 c3 : Nat) (w : World) :
    Calls Tryd.prog 115 #[.agg #[], .agg #[.slice p1 n1 c1, .slice p2 n2 c2, .int .i64 at_, .slice p3 n3 c3, .int .i64 e, .bool m]] w fun ex w' =>
      ex = .returned (.tuple #[.agg #[.int .i64 0, .string ⟨#[]⟩, .int .i64 0, .int .i64 0, .int .i64 0, .int .i64 0, .bool false, .bool false], .agg #[.slice p1 n1 c1, .slice p2 n2 c2, .int .i64 at_, .slice p3 n3 c3, .int .i64 e, .bool m], .int .i64 11]) ∧ Below w.heap.size w w' := by
  go_enter Tryd.func115, Tryd.ntmps115
  go_wp2
  go_region
  go_wp2
  refine bodyPost_ret (v := .tuple #[.agg #[.int .i64 0, .string ⟨#[]⟩, .int .i64 0, .int .i64 0, .int .i64 0, .int .i64 0, .bool false, .bool false], .agg #[.slice p1 n1 c1, .slice p2 n2 c2, .int .i64 at_, .slice p3 n3 c3, .int .i64 e, .bool m], .int .i64 11]) (by simp [results, Tryd.results115, go_sem]) rfl ?_
  exact ⟨rfl, by ((repeat (first | exact Below.refl _ _ | (refine Below.alloc ?_ (by first | (simp [World.setCell]; done) | (simp [World.setCell]; omega)) _) | (refine Below.setCell ?_ (by first | (simp [World.setCell]; done) | (simp [World.setCell]; omega)) _) | refine Below.drew ?_ | (refine Below.trans ?_ ((below_drewN _ _).mono (by first | (simp [World.setCell]; done) | (simp [World.setCell]; omega)))))))⟩
set_option maxRecDepth 100000 in
set_option maxHeartbeats 8000000 in
theorem tell_wrong (at_ e : Int) (m : Bool) (p1 p2 p3 : Option Addr) (n1 c1 n2 c2 n3 c3 : Nat) (w : World) :
    Calls Tryd.prog 116 #[.agg #[], .agg #[.slice p1 n1 c1, .slice p2 n2 c2, .int .i64 at_, .slice p3 n3 c3, .int .i64 e, .bool m]] w fun ex w' =>
      ex = .returned (.tuple #[.agg #[.int .i64 0, .string ⟨#[]⟩, .int .i64 0, .int .i64 0, .int .i64 0, .int .i64 0, .bool false, .bool false], .agg #[.slice p1 n1 c1, .slice p2 n2 c2, .int .i64 at_, .slice p3 n3 c3, .int .i64 e, .bool m], .int .i64 5]) ∧ Below w.heap.size w w' := by
  go_enter Tryd.func116, Tryd.ntmps116
  go_wp2
  go_region
  go_wp2
  refine bodyPost_ret (v := .tuple #[.agg #[.int .i64 0, .string ⟨#[]⟩, .int .i64 0, .int .i64 0, .int .i64 0, .int .i64 0, .bool false, .bool false], .agg #[.slice p1 n1 c1, .slice p2 n2 c2, .int .i64 at_, .slice p3 n3 c3, .int .i64 e, .bool m], .int .i64 5]) (by simp [results, Tryd.results116, go_sem]) rfl ?_
  exact ⟨rfl, by ((repeat (first | exact Below.refl _ _ | (refine Below.alloc ?_ (by first | (simp [World.setCell]; done) | (simp [World.setCell]; omega)) _) | (refine Below.setCell ?_ (by first | (simp [World.setCell]; done) | (simp [World.setCell]; omega)) _) | refine Below.drew ?_ | (refine Below.trans ?_ ((below_drewN _ _).mono (by first | (simp [World.setCell]; done) | (simp [World.setCell]; omega)))))))⟩
end Go.Proofs.YtnidkdjapieinaaDoor

namespace Go.Proofs.YtnidkdjapieinaaDoor
open Go.RowKit Go.Shelf
set_option linter.unusedSimpArgs false
set_option linter.unusedVariables false

def lexK : Ans → Value
  | .tell x => .agg (tokC x.t ++ [Value.bool x.imp]).toArray
  | _ => .agg #[.int .i64 0, .string ⟨#[]⟩, .int .i64 0, .int .i64 0, .int .i64 0, .int .i64 0, .bool false, .bool false]
def errK : Ans → Int
  | .tell _ => 0
  | .over => 11
  | .wrong => 5

/-- A stream's value, its shapes laid open. -/
theorem StC.shapes {W : World} {S : Nat → Prop} {c : List Value} {e : Nat} {q : List It} {bs : List Nat} (h : StC W S c e q bs) :
    ∃ (p1 p2 p3 : Option Addr) (n1 c1 n2 c2 n3 c3 at_ : Nat), c = [.slice p1 n1 c1, .slice p2 n2 c2, .int .i64 at_, .slice p3 n3 c3, .int .i64 e, .bool true] := by
  obtain ⟨va, vi, vb, as_, is_, at_, rfl, h2, h3, h4, r⟩ := h
  obtain ⟨p1, c1, rfl⟩ := h2.shape
  obtain ⟨p2, c2, rfl⟩ := h3.shape
  obtain ⟨p3, c3, rfl⟩ := h4.shape
  exact ⟨_, _, _, _, _, _, _, _, _, _, rfl⟩

set_option maxRecDepth 100000 in
set_option maxHeartbeats 8000000 in
theorem set8o (W : World) (z : Nat) (a b c d e f g i : Value) : OffB z W ((((((((W.setCell ⟨z, 0, none⟩ a).setCell ⟨z, 1, none⟩ b).setCell ⟨z, 2, none⟩ c).setCell ⟨z, 3, none⟩ d).setCell ⟨z, 4, none⟩ e).setCell ⟨z, 5, none⟩ f).setCell ⟨z, 6, none⟩ g).setCell ⟨z, 7, none⟩ i) :=
  (((((((((OffB.refl z W).set 0 a).set 1 b).set 2 c).set 3 d).set 4 e).set 5 f).set 6 g).set 7 i)
theorem set6o (W : World) (z : Nat) (a b c d e f : Value) : OffB z W ((((((W.setCell ⟨z, 0, none⟩ a).setCell ⟨z, 1, none⟩ b).setCell ⟨z, 2, none⟩ c).setCell ⟨z, 3, none⟩ d).setCell ⟨z, 4, none⟩ e).setCell ⟨z, 5, none⟩ f) :=
  (((((((OffB.refl z W).set 0 a).set 1 b).set 2 c).set 3 d).set 4 e).set 5 f)

set_option maxRecDepth 100000 in
set_option maxHeartbeats 8000000 in
theorem after_any {W : World} {S : Nat → Prop} {tb e : Nat} {q : List It} {bs : List Nat} (h : St W S tb e q bs) (hl : weightK q bs ≤ 1000000) :
    Calls Tryd.prog 27 #[.pointer (some ⟨tb, 0, none⟩)] W fun ex w' => (∃ c : List Value, ex = .returned (.tuple #[lexK (nextK e q bs).1, .agg c.toArray, .int .i64 (errK (nextK e q bs).1)]) ∧ StC w' S c e (nextK e q bs).2.1 (nextK e q bs).2.2) ∧ Below W.heap.size W w' := by
  have hnone := fun w (hb : Below W.heap.size W w) => none_any (h.below_ hb)
  have hall := h.all
  obtain ⟨c, hB, hC⟩ := h.ex
  obtain ⟨p1, p2, p3, n1, c1, n2, c2, n3, c3, at_, rfl⟩ := hC.shapes
  have hN : ∀ (w : World), Below W.heap.size W w → Calls Tryd.prog 48 #[.pointer (some ⟨w.heap.size, 0, none⟩)] (w.alloc (.cells #[.slice p1 n1 c1, .slice p2 n2 c2, .int .i64 at_, .slice p3 n3 c3, .int .i64 e, .bool true] 65)) fun ex w' => ex = .returned (ansV (nextK e q bs).1) ∧ St w' (fun i => S i ∨ (W.heap.size ≤ i ∧ i ≤ w.heap.size)) w.heap.size e (nextK e q bs).2.1 (nextK e q bs).2.2 ∧ OffB w.heap.size (w.alloc (.cells #[.slice p1 n1 c1, .slice p2 n2 c2, .int .i64 at_, .slice p3 n3 c3, .int .i64 e, .bool true] 65)) w' := by
    intro w hw
    refine next_any ⟨⟨_, Blk.new w _ _, ?_⟩, .inr ⟨hw.size, Nat.le_refl _⟩, ?_⟩ hl
    · refine ((hC.other (S' := fun i => S i ∨ (W.heap.size ≤ i ∧ i ≤ w.heap.size)) ?_).below hw).below ((Below.refl _ _).alloc (Nat.le_refl _) _)
      rintro b hb (hs | hs)
      · exact hs
      · omega
    · rintro i (hi | hi)
      · have := hall i hi; have := hw.size; simp; omega
      · simp; omega
  obtain ⟨⟨an, q2, bs2⟩, hR⟩ : ∃ R, nextK e q bs = R := ⟨_, rfl⟩
  rw [hR] at hN ⊢
  simp only at hN ⊢
  have Hnone := Lib.hid hnone
  have c0' := hB.cell 0
  have c1' := hB.cell 1
  have c2' := hB.cell 2
  have c3' := hB.cell 3
  have c4' := hB.cell 4
  have c5' := hB.cell 5
  have hlt := hB.lt
  simp only [List.getElem?_toArray, List.getElem?_cons_zero, List.getElem?_cons_succ] at c0' c1' c2' c3' c4' c5'
  have Hlt := Lib.hid hlt
  have Hall := Lib.hid hall
  clear h hB hC hnone hR hl hall hlt
  cases an with
  | tell x =>
    obtain ⟨⟨⟨k, u, n⟩, aa, l, cc, f⟩, i⟩ := x
    simp only [ansV, tokC, List.cons_append, List.nil_append] at hN
    have HN := Lib.hid hN
    clear hN
    have hm : ∀ w : World, (method 252 99 (.agg #[.int .i64 k, .string ⟨u.toArray⟩, .int .i64 n, .int .i64 aa, .int .i64 l, .int .i64 cc, .bool f, .bool i]) "thunkmill/layout.tell").run Tryd.prog w = .ok (114, .agg #[.int .i64 k, .string ⟨u.toArray⟩, .int .i64 n, .int .i64 aa, .int .i64 l, .int .i64 cc, .bool f, .bool i]) w := fun _ => by kernel_rfl
    go_enter Tryd.func27, Tryd.ntmps27
    go_wp2_with (first | (go_at_call 28; refine (Hnone.out _ ((((Below.refl W.heap.size W).alloc (Nat.le_refl _) _)).alloc (by simp) _)).mono ?_; rintro ex w1 ⟨rfl, b1⟩; have BA := ((Blk.new W #[.int .i64 0, .string ⟨#[]⟩, .int .i64 0, .int .i64 0, .int .i64 0, .int .i64 0, .bool false, .bool false] 37).alloc (.cells #[.slice none 0 0, .slice none 0 0, .int .i64 0, .slice none 0 0, .int .i64 0, .bool false] 65)).below b1 (by simp; omega); have BB := (Blk.new (W.alloc (.cells #[.int .i64 0, .string ⟨#[]⟩, .int .i64 0, .int .i64 0, .int .i64 0, .int .i64 0, .bool false, .bool false] 37)) #[.slice none 0 0, .slice none 0 0, .int .i64 0, .slice none 0 0, .int .i64 0, .bool false] 65).below b1 (by simp); have B1 := ((((Below.refl W.heap.size W).alloc (Nat.le_refl _) (.cells #[.int .i64 0, .string ⟨#[]⟩, .int .i64 0, .int .i64 0, .int .i64 0, .int .i64 0, .bool false, .bool false] 37))).alloc (by simp) (.cells #[.slice none 0 0, .slice none 0 0, .int .i64 0, .slice none 0 0, .int .i64 0, .bool false] 65)).trans (b1.mono (by simp; omega)); have L1 : W.heap.size + 1 < w1.heap.size := (by have := BB.lt; simpa using this); have d0 := (B1.cell (p := ⟨tb, 0, none⟩) Hlt.out).trans c0'; have d1 := (B1.cell (p := ⟨tb, 1, none⟩) Hlt.out).trans c1'; have d2 := (B1.cell (p := ⟨tb, 2, none⟩) Hlt.out).trans c2'; have d3 := (B1.cell (p := ⟨tb, 3, none⟩) Hlt.out).trans c3'; have d4 := (B1.cell (p := ⟨tb, 4, none⟩) Hlt.out).trans c4'; have d5 := (B1.cell (p := ⟨tb, 5, none⟩) Hlt.out).trans c5') | (go_at_call 48; refine (HN.out _ B1).mono ?_; rintro ex w2 ⟨rfl, S2, o2⟩; have BA := (BA.alloc (.cells #[.slice p1 n1 c1, .slice p2 n2 c2, .int .i64 at_, .slice p3 n3 c3, .int .i64 e, .bool true] 65)).offB o2 (by omega); have BB := (BB.alloc (.cells #[.slice p1 n1 c1, .slice p2 n2 c2, .int .i64 at_, .slice p3 n3 c3, .int .i64 e, .bool true] 65)).offB o2 (by simp; omega); have B2 := (B1.alloc B1.size (.cells #[.slice p1 n1 c1, .slice p2 n2 c2, .int .i64 at_, .slice p3 n3 c3, .int .i64 e, .bool true] 65)).trans (o2.below (B := W.heap.size) (by simp; omega) (by omega)); obtain ⟨cs, hB2, hC2⟩ := S2.ex; obtain ⟨r1, r2, r3, m1, k1, m2, k2, m3, k3, at2, rfl⟩ := hC2.shapes; have e0 := hB2.cell 0; have e1 := hB2.cell 1; have e2 := hB2.cell 2; have e3 := hB2.cell 3; have e4 := hB2.cell 4; have e5 := hB2.cell 5; simp only [List.getElem?_toArray, List.getElem?_cons_zero, List.getElem?_cons_succ] at e0 e1 e2 e3 e4 e5) | (go_at_call 114; refine (tell_yes _ _ _ _ _ _ _ _ _ _ _ _ _ _ _ _ _ _ _ _ _).mono ?_; rintro ex w3 ⟨rfl, b3⟩; have BA := BA.below b3 BA.lt; have BB := BB.below b3 BB.lt; have a0 := BA.cell 0; have a1 := BA.cell 1; have a2 := BA.cell 2; have a3 := BA.cell 3; have a4 := BA.cell 4; have a5 := BA.cell 5; have a6 := BA.cell 6; have a7 := BA.cell 7; have fa0 := BA.free 0; have fa1 := BA.free 1; have fa2 := BA.free 2; have fa3 := BA.free 3; have fa4 := BA.free 4; have fa5 := BA.free 5; have fa6 := BA.free 6; have fa7 := BA.free 7; simp only [List.getElem?_toArray, List.getElem?_cons_zero, List.getElem?_cons_succ] at a0 a1 a2 a3 a4 a5 a6 a7; have hz : (W.alloc (.cells #[.int .i64 0, .string ⟨#[]⟩, .int .i64 0, .int .i64 0, .int .i64 0, .int .i64 0, .bool false, .bool false] 37)).heap.size = W.heap.size + 1 := (by simp); rw [hz] at BB; have g0 := BB.cell 0; have g1 := BB.cell 1; have g2 := BB.cell 2; have g3 := BB.cell 3; have g4 := BB.cell 4; have g5 := BB.cell 5; have fg0 := BB.free 0; have fg1 := BB.free 1; have fg2 := BB.free 2; have fg3 := BB.free 3; have fg4 := BB.free 4; have fg5 := BB.free 5; simp only [List.getElem?_toArray, List.getElem?_cons_zero, List.getElem?_cons_succ] at g0 g1 g2 g3 g4 g5; have B3 := B2.trans (b3.mono B2.size); have C3 := hC2.below b3; clear BA BB S2 o2 hB2 hC2 b3 b1 B1))
    refine bodyPost_ret (v := .tuple #[.agg #[.int .i64 k, .string ⟨u.toArray⟩, .int .i64 n, .int .i64 aa, .int .i64 l, .int .i64 cc, .bool f, .bool i], .agg #[.slice r1 m1 k1, .slice r2 m2 k2, .int .i64 at2, .slice r3 m3 k3, .int .i64 e, .bool true], .int .i64 0]) (by simp [results, Tryd.results27, go_sem, a0, a1, a2, a3, a4, a5, a6, a7, g0, g1, g2, g3, g4, g5]) rfl ?_
    refine ⟨⟨[.slice r1 m1 k1, .slice r2 m2 k2, .int .i64 at2, .slice r3 m3 k3, .int .i64 e, .bool true], rfl, ?_⟩, ?_⟩
    · refine StC.other (S := fun i => S i ∨ (W.heap.size ≤ i ∧ i ≤ w1.heap.size)) ?_ (fun b _ hb => .inl hb)
      exact (C3.off (set8o _ _ _ _ _ _ _ _ _ _) (.inr ⟨by omega, by omega⟩)).off (set6o _ _ _ _ _ _ _ _) (.inr ⟨by omega, by omega⟩)
    · exact (B3.trans ((set8o _ _ _ _ _ _ _ _ _ _).below (by have := B3.size; omega) (by omega))).trans ((set6o _ _ _ _ _ _ _ _).below (by have := B3.size; simp; omega) (by omega))
  | over =>
    skip
    simp only [ansV, tokC, List.cons_append, List.nil_append] at hN
    have HN := Lib.hid hN
    clear hN
    have hm : ∀ w : World, (method 252 102 (.agg #[]) "thunkmill/layout.tell").run Tryd.prog w = .ok (115, .agg #[]) w := fun _ => by kernel_rfl
    go_enter Tryd.func27, Tryd.ntmps27
    go_wp2_with (first | (go_at_call 28; refine (Hnone.out _ ((((Below.refl W.heap.size W).alloc (Nat.le_refl _) _)).alloc (by simp) _)).mono ?_; rintro ex w1 ⟨rfl, b1⟩; have BA := ((Blk.new W #[.int .i64 0, .string ⟨#[]⟩, .int .i64 0, .int .i64 0, .int .i64 0, .int .i64 0, .bool false, .bool false] 37).alloc (.cells #[.slice none 0 0, .slice none 0 0, .int .i64 0, .slice none 0 0, .int .i64 0, .bool false] 65)).below b1 (by simp; omega); have BB := (Blk.new (W.alloc (.cells #[.int .i64 0, .string ⟨#[]⟩, .int .i64 0, .int .i64 0, .int .i64 0, .int .i64 0, .bool false, .bool false] 37)) #[.slice none 0 0, .slice none 0 0, .int .i64 0, .slice none 0 0, .int .i64 0, .bool false] 65).below b1 (by simp); have B1 := ((((Below.refl W.heap.size W).alloc (Nat.le_refl _) (.cells #[.int .i64 0, .string ⟨#[]⟩, .int .i64 0, .int .i64 0, .int .i64 0, .int .i64 0, .bool false, .bool false] 37))).alloc (by simp) (.cells #[.slice none 0 0, .slice none 0 0, .int .i64 0, .slice none 0 0, .int .i64 0, .bool false] 65)).trans (b1.mono (by simp; omega)); have L1 : W.heap.size + 1 < w1.heap.size := (by have := BB.lt; simpa using this); have d0 := (B1.cell (p := ⟨tb, 0, none⟩) Hlt.out).trans c0'; have d1 := (B1.cell (p := ⟨tb, 1, none⟩) Hlt.out).trans c1'; have d2 := (B1.cell (p := ⟨tb, 2, none⟩) Hlt.out).trans c2'; have d3 := (B1.cell (p := ⟨tb, 3, none⟩) Hlt.out).trans c3'; have d4 := (B1.cell (p := ⟨tb, 4, none⟩) Hlt.out).trans c4'; have d5 := (B1.cell (p := ⟨tb, 5, none⟩) Hlt.out).trans c5') | (go_at_call 48; refine (HN.out _ B1).mono ?_; rintro ex w2 ⟨rfl, S2, o2⟩; have BA := (BA.alloc (.cells #[.slice p1 n1 c1, .slice p2 n2 c2, .int .i64 at_, .slice p3 n3 c3, .int .i64 e, .bool true] 65)).offB o2 (by omega); have BB := (BB.alloc (.cells #[.slice p1 n1 c1, .slice p2 n2 c2, .int .i64 at_, .slice p3 n3 c3, .int .i64 e, .bool true] 65)).offB o2 (by simp; omega); have B2 := (B1.alloc B1.size (.cells #[.slice p1 n1 c1, .slice p2 n2 c2, .int .i64 at_, .slice p3 n3 c3, .int .i64 e, .bool true] 65)).trans (o2.below (B := W.heap.size) (by simp; omega) (by omega)); obtain ⟨cs, hB2, hC2⟩ := S2.ex; obtain ⟨r1, r2, r3, m1, k1, m2, k2, m3, k3, at2, rfl⟩ := hC2.shapes; have e0 := hB2.cell 0; have e1 := hB2.cell 1; have e2 := hB2.cell 2; have e3 := hB2.cell 3; have e4 := hB2.cell 4; have e5 := hB2.cell 5; simp only [List.getElem?_toArray, List.getElem?_cons_zero, List.getElem?_cons_succ] at e0 e1 e2 e3 e4 e5) | (go_at_call 115; refine (tell_over _ _ _ _ _ _ _ _ _ _ _ _ _).mono ?_; rintro ex w3 ⟨rfl, b3⟩; have BA := BA.below b3 BA.lt; have BB := BB.below b3 BB.lt; have a0 := BA.cell 0; have a1 := BA.cell 1; have a2 := BA.cell 2; have a3 := BA.cell 3; have a4 := BA.cell 4; have a5 := BA.cell 5; have a6 := BA.cell 6; have a7 := BA.cell 7; have fa0 := BA.free 0; have fa1 := BA.free 1; have fa2 := BA.free 2; have fa3 := BA.free 3; have fa4 := BA.free 4; have fa5 := BA.free 5; have fa6 := BA.free 6; have fa7 := BA.free 7; simp only [List.getElem?_toArray, List.getElem?_cons_zero, List.getElem?_cons_succ] at a0 a1 a2 a3 a4 a5 a6 a7; have hz : (W.alloc (.cells #[.int .i64 0, .string ⟨#[]⟩, .int .i64 0, .int .i64 0, .int .i64 0, .int .i64 0, .bool false, .bool false] 37)).heap.size = W.heap.size + 1 := (by simp); rw [hz] at BB; have g0 := BB.cell 0; have g1 := BB.cell 1; have g2 := BB.cell 2; have g3 := BB.cell 3; have g4 := BB.cell 4; have g5 := BB.cell 5; have fg0 := BB.free 0; have fg1 := BB.free 1; have fg2 := BB.free 2; have fg3 := BB.free 3; have fg4 := BB.free 4; have fg5 := BB.free 5; simp only [List.getElem?_toArray, List.getElem?_cons_zero, List.getElem?_cons_succ] at g0 g1 g2 g3 g4 g5; have B3 := B2.trans (b3.mono B2.size); have C3 := hC2.below b3; clear BA BB S2 o2 hB2 hC2 b3 b1 B1))
    refine bodyPost_ret (v := .tuple #[.agg #[.int .i64 0, .string ⟨#[]⟩, .int .i64 0, .int .i64 0, .int .i64 0, .int .i64 0, .bool false, .bool false], .agg #[.slice r1 m1 k1, .slice r2 m2 k2, .int .i64 at2, .slice r3 m3 k3, .int .i64 e, .bool true], .int .i64 11]) (by simp [results, Tryd.results27, go_sem, a0, a1, a2, a3, a4, a5, a6, a7, g0, g1, g2, g3, g4, g5]) rfl ?_
    refine ⟨⟨[.slice r1 m1 k1, .slice r2 m2 k2, .int .i64 at2, .slice r3 m3 k3, .int .i64 e, .bool true], rfl, ?_⟩, ?_⟩
    · refine StC.other (S := fun i => S i ∨ (W.heap.size ≤ i ∧ i ≤ w1.heap.size)) ?_ (fun b _ hb => .inl hb)
      exact (C3.off (set8o _ _ _ _ _ _ _ _ _ _) (.inr ⟨by omega, by omega⟩)).off (set6o _ _ _ _ _ _ _ _) (.inr ⟨by omega, by omega⟩)
    · exact (B3.trans ((set8o _ _ _ _ _ _ _ _ _ _).below (by have := B3.size; omega) (by omega))).trans ((set6o _ _ _ _ _ _ _ _).below (by have := B3.size; simp; omega) (by omega))
  | wrong =>
    skip
    simp only [ansV, tokC, List.cons_append, List.nil_append] at hN
    have HN := Lib.hid hN
    clear hN
    have hm : ∀ w : World, (method 252 103 (.agg #[]) "thunkmill/layout.tell").run Tryd.prog w = .ok (116, .agg #[]) w := fun _ => by kernel_rfl
    go_enter Tryd.func27, Tryd.ntmps27
    go_wp2_with (first | (go_at_call 28; refine (Hnone.out _ ((((Below.refl W.heap.size W).alloc (Nat.le_refl _) _)).alloc (by simp) _)).mono ?_; rintro ex w1 ⟨rfl, b1⟩; have BA := ((Blk.new W #[.int .i64 0, .string ⟨#[]⟩, .int .i64 0, .int .i64 0, .int .i64 0, .int .i64 0, .bool false, .bool false] 37).alloc (.cells #[.slice none 0 0, .slice none 0 0, .int .i64 0, .slice none 0 0, .int .i64 0, .bool false] 65)).below b1 (by simp; omega); have BB := (Blk.new (W.alloc (.cells #[.int .i64 0, .string ⟨#[]⟩, .int .i64 0, .int .i64 0, .int .i64 0, .int .i64 0, .bool false, .bool false] 37)) #[.slice none 0 0, .slice none 0 0, .int .i64 0, .slice none 0 0, .int .i64 0, .bool false] 65).below b1 (by simp); have B1 := ((((Below.refl W.heap.size W).alloc (Nat.le_refl _) (.cells #[.int .i64 0, .string ⟨#[]⟩, .int .i64 0, .int .i64 0, .int .i64 0, .int .i64 0, .bool false, .bool false] 37))).alloc (by simp) (.cells #[.slice none 0 0, .slice none 0 0, .int .i64 0, .slice none 0 0, .int .i64 0, .bool false] 65)).trans (b1.mono (by simp; omega)); have L1 : W.heap.size + 1 < w1.heap.size := (by have := BB.lt; simpa using this); have d0 := (B1.cell (p := ⟨tb, 0, none⟩) Hlt.out).trans c0'; have d1 := (B1.cell (p := ⟨tb, 1, none⟩) Hlt.out).trans c1'; have d2 := (B1.cell (p := ⟨tb, 2, none⟩) Hlt.out).trans c2'; have d3 := (B1.cell (p := ⟨tb, 3, none⟩) Hlt.out).trans c3'; have d4 := (B1.cell (p := ⟨tb, 4, none⟩) Hlt.out).trans c4'; have d5 := (B1.cell (p := ⟨tb, 5, none⟩) Hlt.out).trans c5') | (go_at_call 48; refine (HN.out _ B1).mono ?_; rintro ex w2 ⟨rfl, S2, o2⟩; have BA := (BA.alloc (.cells #[.slice p1 n1 c1, .slice p2 n2 c2, .int .i64 at_, .slice p3 n3 c3, .int .i64 e, .bool true] 65)).offB o2 (by omega); have BB := (BB.alloc (.cells #[.slice p1 n1 c1, .slice p2 n2 c2, .int .i64 at_, .slice p3 n3 c3, .int .i64 e, .bool true] 65)).offB o2 (by simp; omega); have B2 := (B1.alloc B1.size (.cells #[.slice p1 n1 c1, .slice p2 n2 c2, .int .i64 at_, .slice p3 n3 c3, .int .i64 e, .bool true] 65)).trans (o2.below (B := W.heap.size) (by simp; omega) (by omega)); obtain ⟨cs, hB2, hC2⟩ := S2.ex; obtain ⟨r1, r2, r3, m1, k1, m2, k2, m3, k3, at2, rfl⟩ := hC2.shapes; have e0 := hB2.cell 0; have e1 := hB2.cell 1; have e2 := hB2.cell 2; have e3 := hB2.cell 3; have e4 := hB2.cell 4; have e5 := hB2.cell 5; simp only [List.getElem?_toArray, List.getElem?_cons_zero, List.getElem?_cons_succ] at e0 e1 e2 e3 e4 e5) | (go_at_call 116; refine (tell_wrong _ _ _ _ _ _ _ _ _ _ _ _ _).mono ?_; rintro ex w3 ⟨rfl, b3⟩; have BA := BA.below b3 BA.lt; have BB := BB.below b3 BB.lt; have a0 := BA.cell 0; have a1 := BA.cell 1; have a2 := BA.cell 2; have a3 := BA.cell 3; have a4 := BA.cell 4; have a5 := BA.cell 5; have a6 := BA.cell 6; have a7 := BA.cell 7; have fa0 := BA.free 0; have fa1 := BA.free 1; have fa2 := BA.free 2; have fa3 := BA.free 3; have fa4 := BA.free 4; have fa5 := BA.free 5; have fa6 := BA.free 6; have fa7 := BA.free 7; simp only [List.getElem?_toArray, List.getElem?_cons_zero, List.getElem?_cons_succ] at a0 a1 a2 a3 a4 a5 a6 a7; have hz : (W.alloc (.cells #[.int .i64 0, .string ⟨#[]⟩, .int .i64 0, .int .i64 0, .int .i64 0, .int .i64 0, .bool false, .bool false] 37)).heap.size = W.heap.size + 1 := (by simp); rw [hz] at BB; have g0 := BB.cell 0; have g1 := BB.cell 1; have g2 := BB.cell 2; have g3 := BB.cell 3; have g4 := BB.cell 4; have g5 := BB.cell 5; have fg0 := BB.free 0; have fg1 := BB.free 1; have fg2 := BB.free 2; have fg3 := BB.free 3; have fg4 := BB.free 4; have fg5 := BB.free 5; simp only [List.getElem?_toArray, List.getElem?_cons_zero, List.getElem?_cons_succ] at g0 g1 g2 g3 g4 g5; have B3 := B2.trans (b3.mono B2.size); have C3 := hC2.below b3; clear BA BB S2 o2 hB2 hC2 b3 b1 B1))
    refine bodyPost_ret (v := .tuple #[.agg #[.int .i64 0, .string ⟨#[]⟩, .int .i64 0, .int .i64 0, .int .i64 0, .int .i64 0, .bool false, .bool false], .agg #[.slice r1 m1 k1, .slice r2 m2 k2, .int .i64 at2, .slice r3 m3 k3, .int .i64 e, .bool true], .int .i64 5]) (by simp [results, Tryd.results27, go_sem, a0, a1, a2, a3, a4, a5, a6, a7, g0, g1, g2, g3, g4, g5]) rfl ?_
    refine ⟨⟨[.slice r1 m1 k1, .slice r2 m2 k2, .int .i64 at2, .slice r3 m3 k3, .int .i64 e, .bool true], rfl, ?_⟩, ?_⟩
    · refine StC.other (S := fun i => S i ∨ (W.heap.size ≤ i ∧ i ≤ w1.heap.size)) ?_ (fun b _ hb => .inl hb)
      exact (C3.off (set8o _ _ _ _ _ _ _ _ _ _) (.inr ⟨by omega, by omega⟩)).off (set6o _ _ _ _ _ _ _ _) (.inr ⟨by omega, by omega⟩)
    · exact (B3.trans ((set8o _ _ _ _ _ _ _ _ _ _).below (by have := B3.size; omega) (by omega))).trans ((set6o _ _ _ _ _ _ _ _).below (by have := B3.size; simp; omega) (by omega))
end Go.Proofs.YtnidkdjapieinaaDoor

namespace Go.Proofs.YtnidkdjapieinaaDoor
open Go.RowKit Go.Shelf
set_option linter.unusedSimpArgs false
set_option linter.unusedVariables false

theorem Blk.set6 {W : World} {b : Nat} {c0 c1 c2 c3 c4 c5 : Value} (h : Blk W b #[c0, c1, c2, c3, c4, c5]) (a b' c d e f : Value) : Blk ((((((W.setCell ⟨b, 0, none⟩ a).setCell ⟨b, 1, none⟩ b').setCell ⟨b, 2, none⟩ c).setCell ⟨b, 3, none⟩ d).setCell ⟨b, 4, none⟩ e).setCell ⟨b, 5, none⟩ f) b #[a, b', c, d, e, f] :=
  (((((h.set 0 a (by simp)).set 1 b' (by simp)).set 2 c (by simp)).set 3 d (by simp)).set 4 e (by simp)).set 5 f (by simp)
theorem OffB.fresh {tb z : Nat} {A B C : World} (h : OffB tb A B) (k : OffB z B C) (hz : A.heap.size ≤ z) : OffB tb A C :=
  ⟨k.os.trans h.os, k.tape.trans h.tape, k.output.trans h.output, Nat.le_trans h.size k.size, fun i hi hn => (k.block i (Nat.lt_of_lt_of_le hi h.size) (by omega)).trans (h.block i hi hn)⟩
theorem St.wide {W : World} {S : Nat → Prop} {tb e : Nat} {q : List It} {bs : List Nat} (h : St W S tb e q bs) (o : Obj) : St (W.alloc o) (fun i => S i ∨ i = W.heap.size) tb e q bs := by
  obtain ⟨c, hB, hC⟩ := h.ex
  have hb : Below W.heap.size W (W.alloc o) := (Below.refl _ _).alloc (Nat.le_refl _) _
  refine ⟨⟨c, hB.below hb h.lt, (hC.other ?_).below hb⟩, .inl h.mem, ?_⟩
  · rintro b hb (hs | rfl)
    · exact hs
    · omega
  · rintro i (hi | rfl)
    · have := h.all i hi; simp; omega
    · simp
theorem set8b {W w1 : World} {B z : Nat} (hz : B ≤ z) (h : Below B W w1) (hs : B ≤ w1.heap.size) (a b c d e f g i : Value) : Below B W ((((((((w1.setCell ⟨z, 0, none⟩ a).setCell ⟨z, 1, none⟩ b).setCell ⟨z, 2, none⟩ c).setCell ⟨z, 3, none⟩ d).setCell ⟨z, 4, none⟩ e).setCell ⟨z, 5, none⟩ f).setCell ⟨z, 6, none⟩ g).setCell ⟨z, 7, none⟩ i) :=
  h.trans ((set8o _ _ _ _ _ _ _ _ _ _).below hs hz)

set_option maxRecDepth 100000 in
set_option maxHeartbeats 8000000 in
theorem Take_yes {W : World} {S : Nat → Prop} {tb e : Nat} {q q2 : List It} {bs bs2 : List Nat} {x : Lxm} (h : St W S tb e q bs) (hl : weightK q bs ≤ 1000000) (hn : nextK e q bs = (.tell x, q2, bs2)) :
    Calls Tryd.prog 17 #[.pointer (some ⟨tb, 0, none⟩)] W fun ex w' => ex = .returned (.tuple #[lexK (.tell x), .int .i64 0]) ∧ St w' S tb e q2 bs2 ∧ OffB tb W w' := by
  obtain ⟨⟨⟨k, u, n⟩, aa, l, cc, f⟩, i⟩ := x
  have hA := fun (w : World) (hs : St w (fun i => S i ∨ i = W.heap.size) tb e q bs) => after_any hs hl
  rw [hn] at hA
  simp only [lexK, errK, tokC, List.cons_append, List.nil_append] at hA
  have HA := Lib.hid hA
  have H := Lib.hid h
  obtain ⟨c, hB, hC0⟩ := h.ex
  obtain ⟨p1, p2, p3, n1, c1, n2, c2, n3, c3, at_, rfl⟩ := hC0.shapes
  have Hlt := Lib.hid h.lt
  have HB := Lib.hid hB
  have Hmem := Lib.hid h.mem
  have Hall := Lib.hid h.all
  clear h hB hC0 hA hl hn
  go_enter Tryd.func17, Tryd.ntmps17
  go_upto_region 1 with fail
  go_cut [4, 5, 6] (fun s4 s5 s6 wx => ∃ (z4 z5 : Nat) (r1 r2 r3 : Option Addr) (m1 k1 m2 k2 m3 k3 at2 : Nat), s4 = .pointer (some ⟨z4, 0, none⟩) ∧ s5 = .pointer (some ⟨z5, 0, none⟩) ∧ s6 = .int .i64 0 ∧ Blk wx z4 #[.int .i64 k, .string ⟨u.toArray⟩, .int .i64 n, .int .i64 aa, .int .i64 l, .int .i64 cc, .bool f, .bool i] ∧ Blk wx z5 #[.slice r1 m1 k1, .slice r2 m2 k2, .int .i64 at2, .slice r3 m3 k3, .int .i64 e, .bool true] ∧ StC wx (fun i => S i ∨ i = W.heap.size) [.slice r1 m1 k1, .slice r2 m2 k2, .int .i64 at2, .slice r3 m3 k3, .int .i64 e, .bool true] e q2 bs2 ∧ Blk wx W.heap.size #[.int .i64 0, .string ⟨#[]⟩, .int .i64 0, .int .i64 0, .int .i64 0, .int .i64 0, .bool false, .bool false] ∧ Below W.heap.size W wx ∧ W.heap.size < z4 ∧ z4 < z5)
  case first =>
    go_wp2_with (go_at_call 27; refine (HA.out _ (H.out.wide _)).mono ?_; rintro ex w1 ⟨⟨cs, rfl, hC⟩, b1⟩; obtain ⟨r1, r2, r3, m1, k1, m2, k2, m3, k3, at2, rfl⟩ := hC.shapes; have B1 := ((Below.refl W.heap.size W).alloc (Nat.le_refl _) (.cells #[.int .i64 0, .string ⟨#[]⟩, .int .i64 0, .int .i64 0, .int .i64 0, .int .i64 0, .bool false, .bool false] 37)).trans (b1.mono (by simp)); have BA := (Blk.new W #[.int .i64 0, .string ⟨#[]⟩, .int .i64 0, .int .i64 0, .int .i64 0, .int .i64 0, .bool false, .bool false] 37).below b1 (by simp); have L1 := BA.lt; have L2 := Hlt.out; have e1 : ¬ W.heap.size = w1.heap.size := (by omega); have e2 : ¬ W.heap.size = w1.heap.size + 1 := (by omega); have e3 : ¬ tb = w1.heap.size := (by omega); have e4 : ¬ tb = w1.heap.size + 1 := (by omega); have e5 : ¬ tb = W.heap.size := (by omega); have e6 : ¬ W.heap.size = tb := (by omega))
    go_meet
    exact ⟨w1.heap.size, w1.heap.size + 1, r1, r2, r3, m1, k1, m2, k2, m3, k3, at2, rfl, rfl, rfl, (Blk.new w1 _ _).alloc _, (by have h := Blk.new (w1.alloc (.cells #[.int .i64 k, .string ⟨u.toArray⟩, .int .i64 n, .int .i64 aa, .int .i64 l, .int .i64 cc, .bool f, .bool i] 37)) #[.slice r1 m1 k1, .slice r2 m2 k2, .int .i64 at2, .slice r3 m3 k3, .int .i64 e, .bool true] 65; have hz : (w1.alloc (.cells #[.int .i64 k, .string ⟨u.toArray⟩, .int .i64 n, .int .i64 aa, .int .i64 l, .int .i64 cc, .bool f, .bool i] 37)).heap.size = w1.heap.size + 1 := (by simp); rw [hz] at h; exact h), (hC.below ((Below.refl _ _).alloc (Nat.le_refl _) _)).below ((Below.refl _ _).alloc (Nat.le_refl _) _), (BA.alloc _).alloc _, (B1.alloc B1.size _).alloc (by have := B1.size; simp; omega) _, BA.lt, by omega⟩
  case rest =>
    obtain ⟨z4, z5, r1, r2, r3, m1, k1, m2, k2, m3, k3, at2, rfl, rfl, rfl, B4, B5, hC, BA, B1, l4, l5⟩ := hcut
    have L2 := Hlt.out
    have x0 := B4.cell 0; have x1 := B4.cell 1; have x2 := B4.cell 2; have x3 := B4.cell 3; have x4 := B4.cell 4; have x5 := B4.cell 5; have x6 := B4.cell 6; have x7 := B4.cell 7; simp only [List.getElem?_toArray, List.getElem?_cons_zero, List.getElem?_cons_succ] at x0 x1 x2 x3 x4 x5 x6 x7
    have y0 := B5.cell 0; have y1 := B5.cell 1; have y2 := B5.cell 2; have y3 := B5.cell 3; have y4 := B5.cell 4; have y5 := B5.cell 5; simp only [List.getElem?_toArray, List.getElem?_cons_zero, List.getElem?_cons_succ] at y0 y1 y2 y3 y4 y5
    have a0 := BA.cell 0; have a1 := BA.cell 1; have a2 := BA.cell 2; have a3 := BA.cell 3; have a4 := BA.cell 4; have a5 := BA.cell 5; have a6 := BA.cell 6; have a7 := BA.cell 7; have fa0 := BA.free 0; have fa1 := BA.free 1; have fa2 := BA.free 2; have fa3 := BA.free 3; have fa4 := BA.free 4; have fa5 := BA.free 5; have fa6 := BA.free 6; have fa7 := BA.free 7; simp only [List.getElem?_toArray, List.getElem?_cons_zero, List.getElem?_cons_succ] at a0 a1 a2 a3 a4 a5 a6 a7
    have e1 : ¬ W.heap.size = z4 := (by omega)
    have e2 : ¬ W.heap.size = z5 := (by omega)
    have e3 : ¬ tb = z4 := (by omega)
    have e4 : ¬ tb = z5 := (by omega)
    have e5 : ¬ tb = W.heap.size := (by omega)
    have e6 : ¬ W.heap.size = tb := (by omega)
    have e7 : ¬ z4 = z5 := (by omega)
    have e8 : ¬ z5 = z4 := (by omega)
    have e9 : ¬ z4 = tb := (by omega)
    have e10 : ¬ z5 = tb := (by omega)
    have BT := HB.out.below B1 Hlt.out
    have t0 := BT.cell 0; have t1 := BT.cell 1; have t2 := BT.cell 2; have t3 := BT.cell 3; have t4 := BT.cell 4; have t5 := BT.cell 5; have ft0 := BT.free 0; have ft1 := BT.free 1; have ft2 := BT.free 2; have ft3 := BT.free 3; have ft4 := BT.free 4; have ft5 := BT.free 5; simp only [List.getElem?_toArray, List.getElem?_cons_zero, List.getElem?_cons_succ] at t0 t1 t2 t3 t4 t5
    go_wp2
    refine bodyPost_ret (v := .tuple #[.agg #[.int .i64 k, .string ⟨u.toArray⟩, .int .i64 n, .int .i64 aa, .int .i64 l, .int .i64 cc, .bool f, .bool i], .int .i64 0]) (by simp [results, Tryd.results17, go_sem, a0, a1, a2, a3, a4, a5, a6, a7]) rfl ?_
    refine ⟨rfl, ⟨⟨_, (BT.set6 _ _ _ _ _ _).offB (set8o _ _ _ _ _ _ _ _ _ _) (by omega), ((hC.off (set6o _ tb _ _ _ _ _ _) (.inl Hmem.out)).off (set8o _ W.heap.size _ _ _ _ _ _ _ _) (.inr rfl)).other (fun b _ hb => .inl hb)⟩, Hmem.out, ?_⟩, ((OffB.of_below B1).trans (set6o _ tb _ _ _ _ _ _)).fresh (set8o _ W.heap.size _ _ _ _ _ _ _ _) (Nat.le_refl _)⟩
    intro i hi
    have h1 := Hall.out i hi
    have h2 := B1.size
    have h3 := (set6o wc tb (.slice r1 m1 k1) (.slice r2 m2 k2) (.int .i64 at2) (.slice r3 m3 k3) (.int .i64 e) (.bool true)).size
    exact Nat.lt_of_lt_of_le h1 (Nat.le_trans h2 (Nat.le_trans h3 (set8o _ W.heap.size _ _ _ _ _ _ _ _).size))

set_option maxRecDepth 100000 in
set_option maxHeartbeats 8000000 in
theorem Take_over {W : World} {S : Nat → Prop} {tb e : Nat} {q q2 : List It} {bs bs2 : List Nat} (h : St W S tb e q bs) (hl : weightK q bs ≤ 1000000) (hn : nextK e q bs = (.over, q2, bs2)) :
    Calls Tryd.prog 17 #[.pointer (some ⟨tb, 0, none⟩)] W fun ex w' => ex = .returned (.tuple #[lexK .over, .int .i64 11]) ∧ Below W.heap.size W w' := by
  have hA := fun (w : World) (hs : St w (fun i => S i ∨ i = W.heap.size) tb e q bs) => after_any hs hl
  rw [hn] at hA
  simp only [lexK, errK, tokC, List.cons_append, List.nil_append] at hA
  have HA := Lib.hid hA
  have H := Lib.hid h
  obtain ⟨c, hB, hC0⟩ := h.ex
  obtain ⟨p1, p2, p3, n1, c1, n2, c2, n3, c3, at_, rfl⟩ := hC0.shapes
  have Hlt := Lib.hid h.lt
  have HB := Lib.hid hB
  have Hmem := Lib.hid h.mem
  have Hall := Lib.hid h.all
  clear h hB hC0 hA hl hn
  go_enter Tryd.func17, Tryd.ntmps17
  go_upto_region 1 with fail
  go_cut [4, 5, 6] (fun s4 s5 s6 wx => ∃ (z4 z5 : Nat) (r1 r2 r3 : Option Addr) (m1 k1 m2 k2 m3 k3 at2 : Nat), s4 = .pointer (some ⟨z4, 0, none⟩) ∧ s5 = .pointer (some ⟨z5, 0, none⟩) ∧ s6 = .int .i64 11 ∧ Blk wx z4 #[.int .i64 0, .string ⟨#[]⟩, .int .i64 0, .int .i64 0, .int .i64 0, .int .i64 0, .bool false, .bool false] ∧ Blk wx z5 #[.slice r1 m1 k1, .slice r2 m2 k2, .int .i64 at2, .slice r3 m3 k3, .int .i64 e, .bool true] ∧ StC wx (fun i => S i ∨ i = W.heap.size) [.slice r1 m1 k1, .slice r2 m2 k2, .int .i64 at2, .slice r3 m3 k3, .int .i64 e, .bool true] e q2 bs2 ∧ Blk wx W.heap.size #[.int .i64 0, .string ⟨#[]⟩, .int .i64 0, .int .i64 0, .int .i64 0, .int .i64 0, .bool false, .bool false] ∧ Below W.heap.size W wx ∧ W.heap.size < z4 ∧ z4 < z5)
  case first =>
    go_wp2_with (go_at_call 27; refine (HA.out _ (H.out.wide _)).mono ?_; rintro ex w1 ⟨⟨cs, rfl, hC⟩, b1⟩; obtain ⟨r1, r2, r3, m1, k1, m2, k2, m3, k3, at2, rfl⟩ := hC.shapes; have B1 := ((Below.refl W.heap.size W).alloc (Nat.le_refl _) (.cells #[.int .i64 0, .string ⟨#[]⟩, .int .i64 0, .int .i64 0, .int .i64 0, .int .i64 0, .bool false, .bool false] 37)).trans (b1.mono (by simp)); have BA := (Blk.new W #[.int .i64 0, .string ⟨#[]⟩, .int .i64 0, .int .i64 0, .int .i64 0, .int .i64 0, .bool false, .bool false] 37).below b1 (by simp); have L1 := BA.lt; have L2 := Hlt.out; have e1 : ¬ W.heap.size = w1.heap.size := (by omega); have e2 : ¬ W.heap.size = w1.heap.size + 1 := (by omega); have e3 : ¬ tb = w1.heap.size := (by omega); have e4 : ¬ tb = w1.heap.size + 1 := (by omega); have e5 : ¬ tb = W.heap.size := (by omega); have e6 : ¬ W.heap.size = tb := (by omega))
    go_meet
    exact ⟨w1.heap.size, w1.heap.size + 1, r1, r2, r3, m1, k1, m2, k2, m3, k3, at2, rfl, rfl, rfl, (Blk.new w1 _ _).alloc _, (by have h := Blk.new (w1.alloc (.cells #[.int .i64 0, .string ⟨#[]⟩, .int .i64 0, .int .i64 0, .int .i64 0, .int .i64 0, .bool false, .bool false] 37)) #[.slice r1 m1 k1, .slice r2 m2 k2, .int .i64 at2, .slice r3 m3 k3, .int .i64 e, .bool true] 65; have hz : (w1.alloc (.cells #[.int .i64 0, .string ⟨#[]⟩, .int .i64 0, .int .i64 0, .int .i64 0, .int .i64 0, .bool false, .bool false] 37)).heap.size = w1.heap.size + 1 := (by simp); rw [hz] at h; exact h), (hC.below ((Below.refl _ _).alloc (Nat.le_refl _) _)).below ((Below.refl _ _).alloc (Nat.le_refl _) _), (BA.alloc _).alloc _, (B1.alloc B1.size _).alloc (by have := B1.size; simp; omega) _, BA.lt, by omega⟩
  case rest =>
    obtain ⟨z4, z5, r1, r2, r3, m1, k1, m2, k2, m3, k3, at2, rfl, rfl, rfl, B4, B5, hC, BA, B1, l4, l5⟩ := hcut
    have L2 := Hlt.out
    have x0 := B4.cell 0; have x1 := B4.cell 1; have x2 := B4.cell 2; have x3 := B4.cell 3; have x4 := B4.cell 4; have x5 := B4.cell 5; have x6 := B4.cell 6; have x7 := B4.cell 7; simp only [List.getElem?_toArray, List.getElem?_cons_zero, List.getElem?_cons_succ] at x0 x1 x2 x3 x4 x5 x6 x7
    have y0 := B5.cell 0; have y1 := B5.cell 1; have y2 := B5.cell 2; have y3 := B5.cell 3; have y4 := B5.cell 4; have y5 := B5.cell 5; simp only [List.getElem?_toArray, List.getElem?_cons_zero, List.getElem?_cons_succ] at y0 y1 y2 y3 y4 y5
    have a0 := BA.cell 0; have a1 := BA.cell 1; have a2 := BA.cell 2; have a3 := BA.cell 3; have a4 := BA.cell 4; have a5 := BA.cell 5; have a6 := BA.cell 6; have a7 := BA.cell 7; have fa0 := BA.free 0; have fa1 := BA.free 1; have fa2 := BA.free 2; have fa3 := BA.free 3; have fa4 := BA.free 4; have fa5 := BA.free 5; have fa6 := BA.free 6; have fa7 := BA.free 7; simp only [List.getElem?_toArray, List.getElem?_cons_zero, List.getElem?_cons_succ] at a0 a1 a2 a3 a4 a5 a6 a7
    have e1 : ¬ W.heap.size = z4 := (by omega)
    have e2 : ¬ W.heap.size = z5 := (by omega)
    have e3 : ¬ tb = z4 := (by omega)
    have e4 : ¬ tb = z5 := (by omega)
    have e5 : ¬ tb = W.heap.size := (by omega)
    have e6 : ¬ W.heap.size = tb := (by omega)
    have e7 : ¬ z4 = z5 := (by omega)
    have e8 : ¬ z5 = z4 := (by omega)
    have e9 : ¬ z4 = tb := (by omega)
    have e10 : ¬ z5 = tb := (by omega)
    skip
    go_wp2
    refine bodyPost_ret (v := .tuple #[.agg #[.int .i64 0, .string ⟨#[]⟩, .int .i64 0, .int .i64 0, .int .i64 0, .int .i64 0, .bool false, .bool false], .int .i64 11]) (by simp [results, Tryd.results17, go_sem, a0, a1, a2, a3, a4, a5, a6, a7]) rfl ?_
    exact ⟨rfl, set8b (Nat.le_refl _) B1 B1.size _ _ _ _ _ _ _ _⟩

set_option maxRecDepth 100000 in
set_option maxHeartbeats 8000000 in
theorem Take_wrong {W : World} {S : Nat → Prop} {tb e : Nat} {q q2 : List It} {bs bs2 : List Nat} (h : St W S tb e q bs) (hl : weightK q bs ≤ 1000000) (hn : nextK e q bs = (.wrong, q2, bs2)) :
    Calls Tryd.prog 17 #[.pointer (some ⟨tb, 0, none⟩)] W fun ex w' => ex = .returned (.tuple #[lexK .wrong, .int .i64 5]) ∧ Below W.heap.size W w' := by
  have hA := fun (w : World) (hs : St w (fun i => S i ∨ i = W.heap.size) tb e q bs) => after_any hs hl
  rw [hn] at hA
  simp only [lexK, errK, tokC, List.cons_append, List.nil_append] at hA
  have HA := Lib.hid hA
  have H := Lib.hid h
  obtain ⟨c, hB, hC0⟩ := h.ex
  obtain ⟨p1, p2, p3, n1, c1, n2, c2, n3, c3, at_, rfl⟩ := hC0.shapes
  have Hlt := Lib.hid h.lt
  have HB := Lib.hid hB
  have Hmem := Lib.hid h.mem
  have Hall := Lib.hid h.all
  clear h hB hC0 hA hl hn
  go_enter Tryd.func17, Tryd.ntmps17
  go_upto_region 1 with fail
  go_cut [4, 5, 6] (fun s4 s5 s6 wx => ∃ (z4 z5 : Nat) (r1 r2 r3 : Option Addr) (m1 k1 m2 k2 m3 k3 at2 : Nat), s4 = .pointer (some ⟨z4, 0, none⟩) ∧ s5 = .pointer (some ⟨z5, 0, none⟩) ∧ s6 = .int .i64 5 ∧ Blk wx z4 #[.int .i64 0, .string ⟨#[]⟩, .int .i64 0, .int .i64 0, .int .i64 0, .int .i64 0, .bool false, .bool false] ∧ Blk wx z5 #[.slice r1 m1 k1, .slice r2 m2 k2, .int .i64 at2, .slice r3 m3 k3, .int .i64 e, .bool true] ∧ StC wx (fun i => S i ∨ i = W.heap.size) [.slice r1 m1 k1, .slice r2 m2 k2, .int .i64 at2, .slice r3 m3 k3, .int .i64 e, .bool true] e q2 bs2 ∧ Blk wx W.heap.size #[.int .i64 0, .string ⟨#[]⟩, .int .i64 0, .int .i64 0, .int .i64 0, .int .i64 0, .bool false, .bool false] ∧ Below W.heap.size W wx ∧ W.heap.size < z4 ∧ z4 < z5)
  case first =>
    go_wp2_with (go_at_call 27; refine (HA.out _ (H.out.wide _)).mono ?_; rintro ex w1 ⟨⟨cs, rfl, hC⟩, b1⟩; obtain ⟨r1, r2, r3, m1, k1, m2, k2, m3, k3, at2, rfl⟩ := hC.shapes; have B1 := ((Below.refl W.heap.size W).alloc (Nat.le_refl _) (.cells #[.int .i64 0, .string ⟨#[]⟩, .int .i64 0, .int .i64 0, .int .i64 0, .int .i64 0, .bool false, .bool false] 37)).trans (b1.mono (by simp)); have BA := (Blk.new W #[.int .i64 0, .string ⟨#[]⟩, .int .i64 0, .int .i64 0, .int .i64 0, .int .i64 0, .bool false, .bool false] 37).below b1 (by simp); have L1 := BA.lt; have L2 := Hlt.out; have e1 : ¬ W.heap.size = w1.heap.size := (by omega); have e2 : ¬ W.heap.size = w1.heap.size + 1 := (by omega); have e3 : ¬ tb = w1.heap.size := (by omega); have e4 : ¬ tb = w1.heap.size + 1 := (by omega); have e5 : ¬ tb = W.heap.size := (by omega); have e6 : ¬ W.heap.size = tb := (by omega))
    go_meet
    exact ⟨w1.heap.size, w1.heap.size + 1, r1, r2, r3, m1, k1, m2, k2, m3, k3, at2, rfl, rfl, rfl, (Blk.new w1 _ _).alloc _, (by have h := Blk.new (w1.alloc (.cells #[.int .i64 0, .string ⟨#[]⟩, .int .i64 0, .int .i64 0, .int .i64 0, .int .i64 0, .bool false, .bool false] 37)) #[.slice r1 m1 k1, .slice r2 m2 k2, .int .i64 at2, .slice r3 m3 k3, .int .i64 e, .bool true] 65; have hz : (w1.alloc (.cells #[.int .i64 0, .string ⟨#[]⟩, .int .i64 0, .int .i64 0, .int .i64 0, .int .i64 0, .bool false, .bool false] 37)).heap.size = w1.heap.size + 1 := (by simp); rw [hz] at h; exact h), (hC.below ((Below.refl _ _).alloc (Nat.le_refl _) _)).below ((Below.refl _ _).alloc (Nat.le_refl _) _), (BA.alloc _).alloc _, (B1.alloc B1.size _).alloc (by have := B1.size; simp; omega) _, BA.lt, by omega⟩
  case rest =>
    obtain ⟨z4, z5, r1, r2, r3, m1, k1, m2, k2, m3, k3, at2, rfl, rfl, rfl, B4, B5, hC, BA, B1, l4, l5⟩ := hcut
    have L2 := Hlt.out
    have x0 := B4.cell 0; have x1 := B4.cell 1; have x2 := B4.cell 2; have x3 := B4.cell 3; have x4 := B4.cell 4; have x5 := B4.cell 5; have x6 := B4.cell 6; have x7 := B4.cell 7; simp only [List.getElem?_toArray, List.getElem?_cons_zero, List.getElem?_cons_succ] at x0 x1 x2 x3 x4 x5 x6 x7
    have y0 := B5.cell 0; have y1 := B5.cell 1; have y2 := B5.cell 2; have y3 := B5.cell 3; have y4 := B5.cell 4; have y5 := B5.cell 5; simp only [List.getElem?_toArray, List.getElem?_cons_zero, List.getElem?_cons_succ] at y0 y1 y2 y3 y4 y5
    have a0 := BA.cell 0; have a1 := BA.cell 1; have a2 := BA.cell 2; have a3 := BA.cell 3; have a4 := BA.cell 4; have a5 := BA.cell 5; have a6 := BA.cell 6; have a7 := BA.cell 7; have fa0 := BA.free 0; have fa1 := BA.free 1; have fa2 := BA.free 2; have fa3 := BA.free 3; have fa4 := BA.free 4; have fa5 := BA.free 5; have fa6 := BA.free 6; have fa7 := BA.free 7; simp only [List.getElem?_toArray, List.getElem?_cons_zero, List.getElem?_cons_succ] at a0 a1 a2 a3 a4 a5 a6 a7
    have e1 : ¬ W.heap.size = z4 := (by omega)
    have e2 : ¬ W.heap.size = z5 := (by omega)
    have e3 : ¬ tb = z4 := (by omega)
    have e4 : ¬ tb = z5 := (by omega)
    have e5 : ¬ tb = W.heap.size := (by omega)
    have e6 : ¬ W.heap.size = tb := (by omega)
    have e7 : ¬ z4 = z5 := (by omega)
    have e8 : ¬ z5 = z4 := (by omega)
    have e9 : ¬ z4 = tb := (by omega)
    have e10 : ¬ z5 = tb := (by omega)
    skip
    go_wp2
    refine bodyPost_ret (v := .tuple #[.agg #[.int .i64 0, .string ⟨#[]⟩, .int .i64 0, .int .i64 0, .int .i64 0, .int .i64 0, .bool false, .bool false], .int .i64 5]) (by simp [results, Tryd.results17, go_sem, a0, a1, a2, a3, a4, a5, a6, a7]) rfl ?_
    exact ⟨rfl, set8b (Nat.le_refl _) B1 B1.size _ _ _ _ _ _ _ _⟩

set_option maxRecDepth 100000 in
set_option maxHeartbeats 8000000 in
theorem Peek_wrong {W : World} {S : Nat → Prop} {tb e : Nat} {q q2 : List It} {bs bs2 : List Nat} (h : St W S tb e q bs) (hl : weightK q bs ≤ 1000000) (hn : nextK e q bs = (.wrong, q2, bs2)) :
    Calls Tryd.prog 29 #[.pointer (some ⟨tb, 0, none⟩)] W fun ex w' => ex = .returned (.tuple #[lexK .wrong, .int .i64 5]) ∧ Below W.heap.size W w' := by
  have hA := fun (w : World) (hs : St w (fun i => S i ∨ i = W.heap.size) tb e q bs) => after_any hs hl
  rw [hn] at hA
  simp only [lexK, errK, tokC, List.cons_append, List.nil_append] at hA
  have HA := Lib.hid hA
  have H := Lib.hid h
  obtain ⟨c, hB, hC0⟩ := h.ex
  obtain ⟨p1, p2, p3, n1, c1, n2, c2, n3, c3, at_, rfl⟩ := hC0.shapes
  have Hlt := Lib.hid h.lt
  have HB := Lib.hid hB
  have Hmem := Lib.hid h.mem
  have Hall := Lib.hid h.all
  clear h hB hC0 hA hl hn
  go_enter Tryd.func29, Tryd.ntmps29
  go_upto_region 1 with fail
  go_cut [4, 5, 6] (fun s4 s5 s6 wx => ∃ (z4 z5 : Nat) (r1 r2 r3 : Option Addr) (m1 k1 m2 k2 m3 k3 at2 : Nat), s4 = .pointer (some ⟨z4, 0, none⟩) ∧ s5 = .pointer (some ⟨z5, 0, none⟩) ∧ s6 = .int .i64 5 ∧ Blk wx z4 #[.int .i64 0, .string ⟨#[]⟩, .int .i64 0, .int .i64 0, .int .i64 0, .int .i64 0, .bool false, .bool false] ∧ Blk wx z5 #[.slice r1 m1 k1, .slice r2 m2 k2, .int .i64 at2, .slice r3 m3 k3, .int .i64 e, .bool true] ∧ StC wx (fun i => S i ∨ i = W.heap.size) [.slice r1 m1 k1, .slice r2 m2 k2, .int .i64 at2, .slice r3 m3 k3, .int .i64 e, .bool true] e q2 bs2 ∧ Blk wx W.heap.size #[.int .i64 0, .string ⟨#[]⟩, .int .i64 0, .int .i64 0, .int .i64 0, .int .i64 0, .bool false, .bool false] ∧ Below W.heap.size W wx ∧ W.heap.size < z4 ∧ z4 < z5)
  case first =>
    go_wp2_with (go_at_call 27; refine (HA.out _ (H.out.wide _)).mono ?_; rintro ex w1 ⟨⟨cs, rfl, hC⟩, b1⟩; obtain ⟨r1, r2, r3, m1, k1, m2, k2, m3, k3, at2, rfl⟩ := hC.shapes; have B1 := ((Below.refl W.heap.size W).alloc (Nat.le_refl _) (.cells #[.int .i64 0, .string ⟨#[]⟩, .int .i64 0, .int .i64 0, .int .i64 0, .int .i64 0, .bool false, .bool false] 37)).trans (b1.mono (by simp)); have BA := (Blk.new W #[.int .i64 0, .string ⟨#[]⟩, .int .i64 0, .int .i64 0, .int .i64 0, .int .i64 0, .bool false, .bool false] 37).below b1 (by simp); have L1 := BA.lt; have L2 := Hlt.out; have e1 : ¬ W.heap.size = w1.heap.size := (by omega); have e2 : ¬ W.heap.size = w1.heap.size + 1 := (by omega); have e3 : ¬ tb = w1.heap.size := (by omega); have e4 : ¬ tb = w1.heap.size + 1 := (by omega); have e5 : ¬ tb = W.heap.size := (by omega); have e6 : ¬ W.heap.size = tb := (by omega))
    go_meet
    exact ⟨w1.heap.size, w1.heap.size + 1, r1, r2, r3, m1, k1, m2, k2, m3, k3, at2, rfl, rfl, rfl, (Blk.new w1 _ _).alloc _, (by have h := Blk.new (w1.alloc (.cells #[.int .i64 0, .string ⟨#[]⟩, .int .i64 0, .int .i64 0, .int .i64 0, .int .i64 0, .bool false, .bool false] 37)) #[.slice r1 m1 k1, .slice r2 m2 k2, .int .i64 at2, .slice r3 m3 k3, .int .i64 e, .bool true] 65; have hz : (w1.alloc (.cells #[.int .i64 0, .string ⟨#[]⟩, .int .i64 0, .int .i64 0, .int .i64 0, .int .i64 0, .bool false, .bool false] 37)).heap.size = w1.heap.size + 1 := (by simp); rw [hz] at h; exact h), (hC.below ((Below.refl _ _).alloc (Nat.le_refl _) _)).below ((Below.refl _ _).alloc (Nat.le_refl _) _), (BA.alloc _).alloc _, (B1.alloc B1.size _).alloc (by have := B1.size; simp; omega) _, BA.lt, by omega⟩
  case rest =>
    obtain ⟨z4, z5, r1, r2, r3, m1, k1, m2, k2, m3, k3, at2, rfl, rfl, rfl, B4, B5, hC, BA, B1, l4, l5⟩ := hcut
    have L2 := Hlt.out
    have x0 := B4.cell 0; have x1 := B4.cell 1; have x2 := B4.cell 2; have x3 := B4.cell 3; have x4 := B4.cell 4; have x5 := B4.cell 5; have x6 := B4.cell 6; have x7 := B4.cell 7; simp only [List.getElem?_toArray, List.getElem?_cons_zero, List.getElem?_cons_succ] at x0 x1 x2 x3 x4 x5 x6 x7
    have y0 := B5.cell 0; have y1 := B5.cell 1; have y2 := B5.cell 2; have y3 := B5.cell 3; have y4 := B5.cell 4; have y5 := B5.cell 5; simp only [List.getElem?_toArray, List.getElem?_cons_zero, List.getElem?_cons_succ] at y0 y1 y2 y3 y4 y5
    have a0 := BA.cell 0; have a1 := BA.cell 1; have a2 := BA.cell 2; have a3 := BA.cell 3; have a4 := BA.cell 4; have a5 := BA.cell 5; have a6 := BA.cell 6; have a7 := BA.cell 7; have fa0 := BA.free 0; have fa1 := BA.free 1; have fa2 := BA.free 2; have fa3 := BA.free 3; have fa4 := BA.free 4; have fa5 := BA.free 5; have fa6 := BA.free 6; have fa7 := BA.free 7; simp only [List.getElem?_toArray, List.getElem?_cons_zero, List.getElem?_cons_succ] at a0 a1 a2 a3 a4 a5 a6 a7
    have e1 : ¬ W.heap.size = z4 := (by omega)
    have e2 : ¬ W.heap.size = z5 := (by omega)
    have e3 : ¬ tb = z4 := (by omega)
    have e4 : ¬ tb = z5 := (by omega)
    have e5 : ¬ tb = W.heap.size := (by omega)
    have e6 : ¬ W.heap.size = tb := (by omega)
    have e7 : ¬ z4 = z5 := (by omega)
    have e8 : ¬ z5 = z4 := (by omega)
    have e9 : ¬ z4 = tb := (by omega)
    have e10 : ¬ z5 = tb := (by omega)
    skip
    go_wp2
    refine bodyPost_ret (v := .tuple #[.agg #[.int .i64 0, .string ⟨#[]⟩, .int .i64 0, .int .i64 0, .int .i64 0, .int .i64 0, .bool false, .bool false], .int .i64 5]) (by simp [results, Tryd.results29, go_sem, a0, a1, a2, a3, a4, a5, a6, a7]) rfl ?_
    exact ⟨rfl, set8b (Nat.le_refl _) B1 B1.size _ _ _ _ _ _ _ _⟩

set_option maxRecDepth 100000 in
set_option maxHeartbeats 8000000 in
theorem Wrong_wrong {W : World} {S : Nat → Prop} {tb e : Nat} {q q2 : List It} {bs bs2 : List Nat} (h : St W S tb e q bs) (hl : weightK q bs ≤ 1000000) (hn : nextK e q bs = (.wrong, q2, bs2)) :
    Calls Tryd.prog 18 #[.pointer (some ⟨tb, 0, none⟩)] W fun ex w' => ex = .returned (.int .i64 (placeK e q)) ∧ Below W.heap.size W w' := by
  have hP := fun (w : World) (hs : St w S tb e q bs) => Peek_wrong hs hl hn
  simp only [lexK] at hP
  go_enter Tryd.func18, Tryd.ntmps18
  go_wp2_with (first | (go_at_call 28; refine (none_any h).mono ?_; rintro ex w1 ⟨rfl, b1⟩; have S1 := h.below_ b1) | (go_at_call 29; refine (hP _ S1).mono ?_; rintro ex w2 ⟨rfl, b2⟩; have S2 := (S1.below_ b2).alloc_ (.cells #[.int .i64 0, .string ⟨#[]⟩, .int .i64 0, .int .i64 0, .int .i64 0, .int .i64 0, .bool false, .bool false] 37)) | (go_at_call 30; refine (place_any S2).mono ?_; rintro ex w3 ⟨rfl, b3⟩))
  go_ret
  refine ⟨rfl, ?_⟩
  have B2 := (chain b1 b2)
  exact chain (B2.alloc B2.size _) b3
end Go.Proofs.YtnidkdjapieinaaDoor
