/- The walk of PrimNames. -/
import Derived.Test.YtmgfgkikeflenaaDoorPcR
namespace Go.Proofs.YtmgfgkikeflenaaDoor
open Go.RowKit Go.Shelf
open Ev (AV Mem V VL MR)
set_option linter.unusedSimpArgs false
set_option linter.unusedVariables false

theorem chain_alloc {w a : World} (h : Below w.heap.size w a) (o : Obj) : Below w.heap.size w (a.alloc o) := h.alloc h.size o
set_option maxRecDepth 1000000 in
theorem num_any (n : Int) (w : World) : Calls Tryd.prog 9 #[.int .i64 n] w fun e w' => e = .returned (.agg #[.int .i64 1, .int .i64 n, .string ⟨#[]⟩]) ∧ Below w.heap.size w w' :=
  valued (ν := fun _ => .int .i64 n) (r := .agg [.int .i64 1, .opq 0, .str []]) (args := [.opq 0]) (show ansV _ (Ev.calls Tryd.prog Ev.noFacts 100000 60 _ _ Mem.start) = true by kernel_rfl) (vl_opq _ 0 rfl rfl (vl_nil _)) (is_primq rfl) w
set_option maxRecDepth 1000000 in
theorem two_div (w : World) : Calls Tryd.prog 7 #[.string ⟨#[113, 117, 111, 116]⟩, .int .i64 1, .int .i64 0] w fun e w' => e = .returned (.tuple #[.agg #[.int .i64 4, .int .i64 0, .string ⟨#[100, 105, 118, 105, 100, 101, 32, 98, 121, 32, 122, 101, 114, 111]⟩], .bool true]) ∧ Below w.heap.size w w' :=
  valued (ν := ν0) (r := .tup [.agg [.int .i64 4, .int .i64 0, .str divT], .bool true]) (args := [.str (nameN 3), .int .i64 1, .int .i64 0]) (show ansV _ (Ev.calls Tryd.prog Ev.noFacts 100000 60 _ _ Mem.start) = true by kernel_rfl) (arg_name _ 3 (vl_int _ 1 (vl_int _ 0 (vl_nil _)))) (fun E z h => by
    simp only [V, VL] at h
    obtain ⟨xs1, rfl, y1, ys1, e1, ⟨l, rfl, _, _, e, rfl, _, _, rfl, rfl, _, _, rfl, ⟨rfl, _⟩, rfl⟩, y2, ys2, rfl, rfl, rfl⟩ := h
    obtain rfl : l = #[.int .i64 4, .int .i64 0, .string (Ev.bytes divT)] := by cases l with | mk l => simp at e; subst e; rfl
    obtain rfl : xs1 = #[.agg #[.int .i64 4, .int .i64 0, .string (Ev.bytes divT)], .bool true] := by cases xs1 with | mk l => simp at e1; subst e1; rfl
    rfl) w
theorem good_arg (k : Nat) (p : PT) (h1 : p.kind = kdN k) (h2 : p.text = ⟨#[]⟩) (h3 : p.kind ≠ 2 ∨ (0 ≤ p.num ∧ p.num ≤ 255)) : badK k p = false := by
  unfold badK
  rw [h1, h2]
  have e1 : (kdN k != kdN k) = false := by simp
  have e2 : ((⟨#[]⟩ : ByteArray).toList == []) = true := by rw [ByteArray.toList_eq]; rfl
  rw [e1, e2]
  rcases h3 with h3 | ⟨h3, h4⟩
  · have : (kdN k == 2) = false := by rw [← h1, beq_eq_false_iff_ne]; exact h3
    rw [this]; rfl
  · rw [decide_eq_false (by omega : ¬ p.num < 0), decide_eq_false (by omega : ¬ 255 < p.num)]
    simp
theorem one_rd (W : World) (x : PT) (t : TypeId) : PRd (W.alloc (.cells #[.int .i64 x.kind, .int .i64 x.num, .string x.text] t)) (.slice (some ⟨W.heap.size, 0, none⟩) 1 1) [x] := by
  refine ⟨_, 1, rfl, fun _ => ⟨W.heap.size, 0, rfl, by simp, fun k y hk j c hj => ?_⟩⟩
  have hk0 : k = 0 := by
    have := (List.getElem?_eq_some_iff.1 hk).1
    simpa using this
  subst hk0
  cases hk
  rw [show 0 + 0 * 3 + j = j by omega, (Blk.new W _ t).cell j]
  simpa [PT.cells] using hj
theorem two_rd (W : World) (x y : PT) (t : TypeId) : PRd (W.alloc (.cells #[.int .i64 x.kind, .int .i64 x.num, .string x.text, .int .i64 y.kind, .int .i64 y.num, .string y.text] t)) (.slice (some ⟨W.heap.size, 0, none⟩) 2 2) [x, y] := by
  refine ⟨_, 2, rfl, fun _ => ⟨W.heap.size, 0, rfl, by simp, fun k z hk j c hj => ?_⟩⟩
  have hk2 : k < 2 := by
    have := (List.getElem?_eq_some_iff.1 hk).1
    simpa using this
  have hj3 : j < 3 := by
    have := (List.getElem?_eq_some_iff.1 hj).1
    simpa [PT.cells] using this
  rw [Nat.zero_add, (Blk.new W _ t).cell (k * 3 + j)]
  have hk' : k = 0 ∨ k = 1 := by omega
  have hj' : j = 0 ∨ j = 1 ∨ j = 2 := by omega
  rcases hk' with rfl | rfl <;> cases hk <;> rcases hj' with rfl | rfl | rfl <;> simpa [PT.cells] using hj
abbrev eB : ByteArray := ⟨#[]⟩
theorem ap1 (v : Value) (W : World) (h : PRd W v [⟨1, 256, eB⟩]) : Calls Tryd.prog 8 #[.string ⟨#[99, 104, 114]⟩, v] W fun r W' => r = .returned (.tuple #[.agg #[.int .i64 4, .int .i64 0, .string ⟨#[99, 104, 114, 32, 111, 117, 116, 32, 111, 102, 32, 114, 97, 110, 103, 101]⟩], .int .i64 0]) ∧ Below W.heap.size W W' := by
  have := apply_right 14 (by omega) v _ W h rfl
  have e : applyV 14 [⟨1, 256, eB⟩] = (doesV 14 256 0, 0) := if_pos ⟨rfl, by rw [List.all_cons, good_arg 14 ⟨1, 256, eB⟩ rfl rfl (.inl (by simp))]; rfl⟩
  rw [e] at this
  exact this
theorem ap2 (v : Value) (W : World) (h : PRd W v [⟨1, 65, eB⟩]) : Calls Tryd.prog 8 #[.string ⟨#[99, 104, 114]⟩, v] W fun r W' => r = .returned (.tuple #[.agg #[.int .i64 2, .int .i64 65, .string ⟨#[]⟩], .int .i64 0]) ∧ Below W.heap.size W W' := by
  have := apply_right 14 (by omega) v _ W h rfl
  have e : applyV 14 [⟨1, 65, eB⟩] = (doesV 14 65 0, 0) := if_pos ⟨rfl, by rw [List.all_cons, good_arg 14 ⟨1, 65, eB⟩ rfl rfl (.inl (by simp))]; rfl⟩
  rw [e] at this
  exact this
theorem ap3 (v : Value) (W : World) (h : PRd W v [⟨1, 1, eB⟩]) : Calls Tryd.prog 8 #[.string ⟨#[97, 100, 100]⟩, v] W fun r W' => r = .returned (.tuple #[.agg #[.int .i64 0, .int .i64 0, .string ⟨#[]⟩], .int .i64 2]) ∧ Below W.heap.size W W' :=
  apply_wrong 0 (by omega) v _ W h (by simp) (by simp [arN])
theorem ap4 (v : Value) (W : World) (h : PRd W v [⟨1, 1, eB⟩, ⟨2, 97, eB⟩]) : Calls Tryd.prog 8 #[.string ⟨#[97, 100, 100]⟩, v] W fun r W' => r = .returned (.tuple #[.agg #[.int .i64 0, .int .i64 0, .string ⟨#[]⟩], .int .i64 2]) ∧ Below W.heap.size W W' := by
  have := apply_right 0 (by omega) v _ W h rfl
  have e : applyV 0 [⟨1, 1, eB⟩, ⟨2, 97, eB⟩] = (pV 0 0 [], 2) := by
    unfold applyV
    rw [if_neg]
    rintro ⟨_, h⟩
    rw [List.all_eq_true] at h
    have := h ⟨2, 97, eB⟩ (by simp)
    simp [badK, kdN] at this
  rw [e] at this
  exact this
theorem ap5 (v : Value) (W : World) (h : PRd W v [⟨1, 1, eB⟩, ⟨1, 2, eB⟩]) : Calls Tryd.prog 8 #[.string ⟨#[115, 101, 113]⟩, v] W fun r W' => r = .returned (.tuple #[.agg #[.int .i64 0, .int .i64 0, .string ⟨#[]⟩], .int .i64 2]) ∧ Below W.heap.size W W' :=
  apply_none (nameB 15) (fun j hj => nameB_ne 15 j (by omega) (by omega) (by omega)) v _ W h
theorem ap1' (W : World) : Calls Tryd.prog 8 #[.string ⟨#[99, 104, 114]⟩, .slice (some ⟨W.heap.size, 0, none⟩) 1 1] (W.alloc (.cells #[.int .i64 1, .int .i64 256, .string ⟨#[]⟩] 26)) fun r W' => r = .returned (.tuple #[.agg #[.int .i64 4, .int .i64 0, .string ⟨#[99, 104, 114, 32, 111, 117, 116, 32, 111, 102, 32, 114, 97, 110, 103, 101]⟩], .int .i64 0]) ∧ Below W.heap.size W W' :=
  (ap1 _ _ (one_rd W ⟨1, 256, eB⟩ _)).mono fun r W' h => ⟨h.1, chain (chain_alloc (Below.refl _ _) _) h.2⟩
theorem ap2' (W : World) : Calls Tryd.prog 8 #[.string ⟨#[99, 104, 114]⟩, .slice (some ⟨W.heap.size, 0, none⟩) 1 1] (W.alloc (.cells #[.int .i64 1, .int .i64 65, .string ⟨#[]⟩] 26)) fun r W' => r = .returned (.tuple #[.agg #[.int .i64 2, .int .i64 65, .string ⟨#[]⟩], .int .i64 0]) ∧ Below W.heap.size W W' :=
  (ap2 _ _ (one_rd W ⟨1, 65, eB⟩ _)).mono fun r W' h => ⟨h.1, chain (chain_alloc (Below.refl _ _) _) h.2⟩
theorem ap3' (W : World) : Calls Tryd.prog 8 #[.string ⟨#[97, 100, 100]⟩, .slice (some ⟨W.heap.size, 0, none⟩) 1 1] (W.alloc (.cells #[.int .i64 1, .int .i64 1, .string ⟨#[]⟩] 26)) fun r W' => r = .returned (.tuple #[.agg #[.int .i64 0, .int .i64 0, .string ⟨#[]⟩], .int .i64 2]) ∧ Below W.heap.size W W' :=
  (ap3 _ _ (one_rd W ⟨1, 1, eB⟩ _)).mono fun r W' h => ⟨h.1, chain (chain_alloc (Below.refl _ _) _) h.2⟩
theorem ap4' (W : World) : Calls Tryd.prog 8 #[.string ⟨#[97, 100, 100]⟩, .slice (some ⟨W.heap.size, 0, none⟩) 2 2] (W.alloc (.cells #[.int .i64 1, .int .i64 1, .string ⟨#[]⟩, .int .i64 2, .int .i64 97, .string ⟨#[]⟩] 26)) fun r W' => r = .returned (.tuple #[.agg #[.int .i64 0, .int .i64 0, .string ⟨#[]⟩], .int .i64 2]) ∧ Below W.heap.size W W' :=
  (ap4 _ _ (two_rd W ⟨1, 1, eB⟩ ⟨2, 97, eB⟩ _)).mono fun r W' h => ⟨h.1, chain (chain_alloc (Below.refl _ _) _) h.2⟩
theorem ap5' (W : World) : Calls Tryd.prog 8 #[.string ⟨#[115, 101, 113]⟩, .slice (some ⟨W.heap.size, 0, none⟩) 2 2] (W.alloc (.cells #[.int .i64 1, .int .i64 1, .string ⟨#[]⟩, .int .i64 1, .int .i64 2, .string ⟨#[]⟩] 26)) fun r W' => r = .returned (.tuple #[.agg #[.int .i64 0, .int .i64 0, .string ⟨#[]⟩], .int .i64 2]) ∧ Below W.heap.size W W' :=
  (ap5 _ _ (two_rd W ⟨1, 1, eB⟩ ⟨1, 2, eB⟩ _)).mono fun r W' h => ⟨h.1, chain (chain_alloc (Below.refl _ _) _) h.2⟩
theorem st0 (w : World) : Calls Tryd.prog 10 #[.string ⟨#[97, 100, 100]⟩] w fun e w' => e = .returned (.int .i64 2) ∧ Below w.heap.size w w' := pStrict_at 0 (by omega) w
theorem st1 (w : World) : Calls Tryd.prog 10 #[.string ⟨#[115, 101, 113]⟩] w fun e w' => e = .returned (.int .i64 1) ∧ Below w.heap.size w w' := pStrict_at 15 (by omega) w
theorem st2 (w : World) : Calls Tryd.prog 10 #[.string ⟨#[98, 105, 110, 100]⟩] w fun e w' => e = .returned (.int .i64 0) ∧ Below w.heap.size w w' := pStrict_at 19 (by omega) w
theorem show5 (w : World) (ht : Tb w) : Calls Tryd.prog 11 #[.int .i64 (-5)] w fun e w' => e = .returned (.string ⟨#[45, 53]⟩) ∧ Below w.heap.size w w' := by
  have := Show_any (-5) (by omega) (by omega) w ht
  have e : Lib.itoa (-5) = [45, 53] := by
    unfold Lib.itoa
    rw [if_pos (by omega)]
    show 45 :: Lib.decDigits 5 = _
    rw [Lib.decDigits, dif_pos (by omega)]
    rfl
  rw [e] at this
  exact this
theorem names24 (w : World) : Calls Tryd.prog 6 #[] w fun e w' => ∃ a c, e = .returned (.slice a 24 c) ∧ Below w.heap.size w w' :=
  (Names_any w).mono (by
    rintro e w' ⟨v, rfl, ⟨a, c, rfl, _⟩, hb⟩
    exact ⟨a, c, rfl, hb⟩)
end Go.Proofs.YtmgfgkikeflenaaDoor
