/- PrimNames, walked. -/
import Derived.Test.YtmgfgkikeflenaaDoorPnA
namespace Go.Proofs.YtmgfgkikeflenaaDoor
open Go.RowKit Go.Shelf
set_option linter.unusedSimpArgs false
set_option linter.unusedVariables false


set_option maxRecDepth 100000 in
set_option maxHeartbeats 8000000 in
theorem names_walk (w : World) (ht : Tb w) : Calls Tryd.prog 3 #[] w fun e w' => e = .returned (.bool true) ∧ Below w.heap.size w w' := by
  have Htb := Lib.hid ht
  clear ht
  go_enter Tryd.func3, Tryd.ntmps3
  go_upto_region 4 with (first | (go_at_call 5; refine (lives_true _).mono ?_; rintro e w0 ⟨rfl, b0⟩) | (go_at_call 6; refine (names24 _).mono ?_; rintro e w1 ⟨an, cn, rfl, b1⟩) | (go_at_call 7; refine (two_div _).mono ?_; rintro e wA ⟨rfl, bA⟩))
  have C1 : Below w.heap.size w (wA.alloc (.cells #[.int .i64 4, .int .i64 0, .string ⟨#[100, 105, 118, 105, 100, 101, 32, 98, 121, 32, 122, 101, 114, 111]⟩] 26)) := (by repeat (first | exact Below.refl _ _ | refine chain_alloc ?_ _ | refine chain ?_ (by assumption)))
  have P1 := Blk.new wA #[.int .i64 4, .int .i64 0, .string ⟨#[100, 105, 118, 105, 100, 101, 32, 98, 121, 32, 122, 101, 114, 111]⟩] 26
  generalize wA.alloc (.cells #[.int .i64 4, .int .i64 0, .string ⟨#[100, 105, 118, 105, 100, 101, 32, 98, 121, 32, 122, 101, 114, 111]⟩] 26) = W1 at C1 P1 ⊢
  clear b0 b1 bA
  generalize wA.heap.size = r1 at P1 ⊢
  go_upto_region 5 with (first | (go_at_call 9; refine (num_any _ _).mono ?_; rintro e wn ⟨rfl, bn⟩) | (go_at_call 8; refine (ap1' _).mono ?_; rintro e wZ ⟨rfl, bZ⟩))
  have D2 : Below W1.heap.size W1 (wZ.alloc (.cells #[.int .i64 4, .int .i64 0, .string ⟨#[99, 104, 114, 32, 111, 117, 116, 32, 111, 102, 32, 114, 97, 110, 103, 101]⟩] 26)) := (by repeat (first | exact Below.refl _ _ | refine chain_alloc ?_ _ | refine chain ?_ (by assumption)))
  have C2 := chain C1 D2
  have P1 := P1.below D2 P1.lt
  have P2 := Blk.new wZ #[.int .i64 4, .int .i64 0, .string ⟨#[99, 104, 114, 32, 111, 117, 116, 32, 111, 102, 32, 114, 97, 110, 103, 101]⟩] 26
  generalize wZ.alloc (.cells #[.int .i64 4, .int .i64 0, .string ⟨#[99, 104, 114, 32, 111, 117, 116, 32, 111, 102, 32, 114, 97, 110, 103, 101]⟩] 26) = W2 at P1 P2 C2 ⊢
  clear bZ D2 C1
  (try clear bn)
  (try clear bn)
  generalize wZ.heap.size = r2 at P2 ⊢
  go_upto_region 6 with (first | (go_at_call 9; refine (num_any _ _).mono ?_; rintro e wn ⟨rfl, bn⟩) | (go_at_call 8; refine (ap2' _).mono ?_; rintro e wZ ⟨rfl, bZ⟩))
  have D3 : Below W2.heap.size W2 (wZ.alloc (.cells #[.int .i64 2, .int .i64 65, .string ⟨#[]⟩] 26)) := (by repeat (first | exact Below.refl _ _ | refine chain_alloc ?_ _ | refine chain ?_ (by assumption)))
  have C3 := chain C2 D3
  have P1 := P1.below D3 P1.lt
  have P2 := P2.below D3 P2.lt
  have P3 := Blk.new wZ #[.int .i64 2, .int .i64 65, .string ⟨#[]⟩] 26
  generalize wZ.alloc (.cells #[.int .i64 2, .int .i64 65, .string ⟨#[]⟩] 26) = W3 at P1 P2 P3 C3 ⊢
  clear bZ D3 C2
  (try clear bn)
  (try clear bn)
  generalize wZ.heap.size = r3 at P3 ⊢
  go_upto_region 7 with (first | (go_at_call 9; refine (num_any _ _).mono ?_; rintro e wn ⟨rfl, bn⟩) | (go_at_call 8; refine (ap3' _).mono ?_; rintro e wZ ⟨rfl, bZ⟩))
  have D4 : Below W3.heap.size W3 (wZ.alloc (.cells #[.int .i64 0, .int .i64 0, .string ⟨#[]⟩] 26)) := (by repeat (first | exact Below.refl _ _ | refine chain_alloc ?_ _ | refine chain ?_ (by assumption)))
  have C4 := chain C3 D4
  have P1 := P1.below D4 P1.lt
  have P2 := P2.below D4 P2.lt
  have P3 := P3.below D4 P3.lt
  have P4 := Blk.new wZ #[.int .i64 0, .int .i64 0, .string ⟨#[]⟩] 26
  generalize wZ.alloc (.cells #[.int .i64 0, .int .i64 0, .string ⟨#[]⟩] 26) = W4 at P1 P2 P3 P4 C4 ⊢
  clear bZ D4 C3
  (try clear bn)
  (try clear bn)
  generalize wZ.heap.size = r4 at P4 ⊢
  go_upto_region 8 with (first | (go_at_call 9; refine (num_any _ _).mono ?_; rintro e wn ⟨rfl, bn⟩) | (go_at_call 8; refine (ap4' _).mono ?_; rintro e wZ ⟨rfl, bZ⟩))
  have D5 : Below W4.heap.size W4 (wZ.alloc (.cells #[.int .i64 0, .int .i64 0, .string ⟨#[]⟩] 26)) := (by repeat (first | exact Below.refl _ _ | refine chain_alloc ?_ _ | refine chain ?_ (by assumption)))
  have C5 := chain C4 D5
  have P1 := P1.below D5 P1.lt
  have P2 := P2.below D5 P2.lt
  have P3 := P3.below D5 P3.lt
  have P5 := Blk.new wZ #[.int .i64 0, .int .i64 0, .string ⟨#[]⟩] 26
  generalize wZ.alloc (.cells #[.int .i64 0, .int .i64 0, .string ⟨#[]⟩] 26) = W5 at P1 P2 P3 P5 C5 ⊢
  clear bZ D5 C4
  (try clear bn)
  (try clear bn)
  generalize wZ.heap.size = r5 at P5 ⊢
  go_upto_region 9 with (first | (go_at_call 9; refine (num_any _ _).mono ?_; rintro e wn ⟨rfl, bn⟩) | (go_at_call 8; refine (ap5' _).mono ?_; rintro e wZ ⟨rfl, bZ⟩))
  have D6 : Below W5.heap.size W5 (wZ.alloc (.cells #[.int .i64 0, .int .i64 0, .string ⟨#[]⟩] 26)) := (by repeat (first | exact Below.refl _ _ | refine chain_alloc ?_ _ | refine chain ?_ (by assumption)))
  have C6 := chain C5 D6
  have P1 := P1.below D6 P1.lt
  have P2 := P2.below D6 P2.lt
  have P3 := P3.below D6 P3.lt
  have P6 := Blk.new wZ #[.int .i64 0, .int .i64 0, .string ⟨#[]⟩] 26
  generalize wZ.alloc (.cells #[.int .i64 0, .int .i64 0, .string ⟨#[]⟩] 26) = W6 at P1 P2 P3 P6 C6 ⊢
  clear bZ D6 C5
  (try clear bn)
  (try clear bn)
  generalize wZ.heap.size = r6 at P6 ⊢
  have a0 := P1.cell 0
  have a1 := P1.cell 1
  have a2 := P1.cell 2
  have g0 := P2.cell 0
  have g1 := P2.cell 1
  have g2 := P2.cell 2
  have k0 := P3.cell 0
  have k1 := P3.cell 1
  have k2 := P3.cell 2
  simp only [List.getElem?_toArray, List.getElem?_cons_zero, List.getElem?_cons_succ] at a0 a1 a2 g0 g1 g2 k0 k1 k2
  clear P4 P5 P6
  go_wp2_with (first | (go_at_call 10; with_reducible (refine (st0 _).mono ?_); rintro e x1 ⟨rfl, d1⟩; have E1 := chain C6 d1) | (go_at_call 10; with_reducible (refine (st1 _).mono ?_); rintro e x2 ⟨rfl, d2⟩; have E2 := chain E1 d2) | (go_at_call 10; with_reducible (refine (st2 _).mono ?_); rintro e x3 ⟨rfl, d3⟩; have E3 := chain E2 d3) | (go_at_call 11; refine (show5 _ (Tb.on Htb.out E3)).mono ?_; rintro e x4 ⟨rfl, d4⟩; have E4 := chain E3 d4))
  go_ret
  exact ⟨rfl, E4⟩
end Go.Proofs.YtmgfgkikeflenaaDoor
