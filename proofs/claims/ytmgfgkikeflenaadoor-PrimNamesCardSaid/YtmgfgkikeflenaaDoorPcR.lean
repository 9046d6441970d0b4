/- The walk of PrimCalls. -/
import Derived.Test.YtmgfgkikeflenaaDoorPcQ
namespace Go.Proofs.YtmgfgkikeflenaaDoor
open Go.RowKit Go.Shelf Go.Deep Go.ChangeShapes
set_option linter.unusedSimpArgs false
set_option linter.unusedVariables false

section
variable {H : Type} {enc : TypeId × Value → H} {W : World} {sp : Nat → Bool} {hd : Bool}

theorem add_eq (b o j : Nat) : (⟨b, o, none⟩ : Addr).add j = ⟨b, o + j, none⟩ := by
  unfold Addr.add
  split
  · next h => subst h; rfl
  · rfl
theorem addr_at {a : Addr} {v : Value} (h : W.cell? (a.add 0) = some v) : ∃ b o, a = ⟨b, o, none⟩ ∧ b < W.heap.size := by
  have h0 : W.cell? a = some v := by simpa [Addr.add] using h
  have h1 := World.cell?_spot h0
  obtain ⟨b, o, s⟩ := a
  simp only at h1
  subst h1
  exact ⟨b, o, rfl, World.block_lt_of_cell? W ⟨b, o, none⟩ h0⟩
theorem bytesPrim : Tryd.prog.bytesOf 26 = 32 := by kernel_rfl
theorem weights_mem_all {P : Program} {e : TypeId} : ∀ {l : List (DataW H)} {d : DataW H} {n : Nat}, d ∈ l → n ∈ d.weights P e → n ∈ DataW.weightsAll P e l
  | d0 :: l, d, n, hd, hn => by
    simp only [DataW.weightsAll, List.mem_append]
    rcases List.mem_cons.1 hd with rfl | hd
    · exact .inl hn
    · exact .inr (weights_mem_all hd hn)
theorem fld {fs : Array Field} {cs : List Value} {xs : List (DataW H × List MemPlace)} {m : Nat} (hf : ∀ (i : Nat) (f : Field), fs[i]? = some f → DataW.trod enc Tryd.prog W 0 sp hd m f.type ((cs.drop f.offset).take (Tryd.prog.cellsOf f.type)) = xs[i]?)
    (i : Nat) (t : TypeId) (o : Nat) (h : (fs[i]?).map (fun f => (f.type, f.offset)) = some (t, o)) : DataW.trod enc Tryd.prog W 0 sp hd m t ((cs.drop o).take (Tryd.prog.cellsOf t)) = xs[i]? := by
  rcases hi : fs[i]? with _ | f
  · rw [hi] at h; simp at h
  · rw [hi] at h
    simp only [Option.map_some, Option.some.injEq, Prod.mk.injEq] at h
    obtain ⟨rfl, rfl⟩ := h
    exact hf i f hi

set_option maxRecDepth 100000 in
theorem prim_of_trod {fuel : Nat} {cs : List Value} {x : DataW H × List MemPlace} (h : DataW.trod enc Tryd.prog W 0 sp hd fuel 26 cs = some x) : ∃ y : PT, cs = y.cells := by
  obtain ⟨zs, m, _, hz, hl, hzl, hf⟩ := DataW.trod_struct Tryd.underlying26 h
  have hl7 : cs.length = 3 := hl.trans (by kernel_rfl)
  have k3 : Tryd.prog.cellsOf 3 = 1 := by kernel_rfl
  have k4 : Tryd.prog.cellsOf 2 = 1 := by kernel_rfl
  have k9 : Tryd.prog.cellsOf 9 = 1 := by kernel_rfl
  match cs, hl7 with
  | [c0, c1, c2], _ =>
    match zs, hzl with
    | [z0, z1, z2], _ =>
      have f0 := fld hf 0 3 0 rfl
      have f1 := fld hf 1 2 1 rfl
      have f2 := fld hf 2 9 2 rfl
      simp only [k3] at f0
      simp only [k4] at f1
      simp only [k9] at f2
      obtain ⟨m0, q0, _⟩ := DataW.trod_int Tryd.underlying3 f0
      obtain ⟨m1, q1, _⟩ := DataW.trod_int Tryd.underlying2 f1
      obtain ⟨s2, q2, _, _⟩ := DataW.trod_string Tryd.underlying9 f2
      obtain rfl : c0 = .int .i64 m0 := by simpa using q0
      obtain rfl : c1 = .int .i64 m1 := by simpa using q1
      obtain rfl : c2 = .string s2 := by simpa using q2
      exact ⟨⟨m0, m1, s2⟩, rfl⟩

theorem prims_of_trod {fuel : Nat} {v : Value} {x : DataW H × List MemPlace} (h : DataW.trod enc Tryd.prog W 0 sp hd fuel 33 [v] = some x) (hw : ∀ n ∈ x.1.weights Tryd.prog 33, n ≤ reachBytes) :
    ∃ ps, PRd W v ps ∧ ps.length ≤ 10000000000000 := by
  rcases open_slice Tryd.underlying33 h with ⟨h0, _⟩ | ⟨a, len, cap, m, n, D, Pl, h0, _, hlc, hcm, hm, hxx, hx⟩
  · cases h0
    exact ⟨[], ⟨none, 0, rfl, fun h => by simp at h⟩, by simp⟩
  · cases h0
    have hlm : len ≤ m := by rw [hm]; split <;> omega
    have k7 : Tryd.prog.cellsOf 26 = 3 := by kernel_rfl
    rw [hxx] at hw
    have hle : len * 32 ≤ 140737488351232 := by
      have h1 := hw _ (by simp only [DataW.weights, Tryd.underlying33]; exact List.mem_cons_self ..)
      rw [bytesPrim, List.length_map, List.length_map, List.length_range, List.length_range] at h1
      have h2 : reachBytes = 140737488351232 := by decide
      rw [h2] at h1
      exact Nat.le_trans (Nat.mul_le_mul_right _ (Nat.le_add_right _ _)) h1
    have hacts : ∀ i, i < len → ∃ y : PT, W.cells? 0 (a.add (i * 3)) 3 = some y.cells := by
      intro i hi
      obtain ⟨cs', h1, h2⟩ := hx i (by omega)
      rw [k7] at h1
      obtain ⟨y, rfl⟩ := prim_of_trod h2
      exact ⟨y, h1⟩
    obtain ⟨q, hq⟩ := choose_lt (α := PT) hacts
    refine ⟨(List.range len).map q, ⟨some a, cap, by simp, fun hl => ?_⟩, by simp; omega⟩
    have hl0 : 0 < len := by simpa using hl
    have h00 := (World.cells?_some (hq 0 hl0)).2.2 0 (by omega)
    rw [Nat.zero_mul] at h00
    have h01 : W.cell? (a.add 0) = some (.int .i64 (q 0).kind) := by simpa [Addr.add, PT.cells] using h00
    obtain ⟨b, o, rfl, hb⟩ := addr_at h01
    refine ⟨b, o, rfl, hb, fun i x hx j c hc => ?_⟩
    obtain ⟨hi, rfl⟩ : i < len ∧ q i = x := by
      rw [List.getElem?_map] at hx
      rcases Nat.lt_or_ge i len with hi | hi
      · rw [List.getElem?_range hi] at hx
        exact ⟨hi, by simpa using hx⟩
      · rw [List.getElem?_eq_none (by simpa using hi)] at hx
        simp at hx
    have hj : j < 3 := by
      have := (List.getElem?_eq_some_iff.1 hc).1
      simpa [PT.cells] using this
    have := (World.cells?_some (hq i hi)).2.2 j hj
    rw [hc, add_eq, add_eq] at this
    exact this
end

theorem names_ne : ∀ k j : Fin 24, Nm.byN (nameN k) = Nm.byN (nameN j) → k = j := by decide +kernel
theorem nameB_ne (k j : Nat) (hk : k < 24) (hj : j < 24) (h : k ≠ j) : nameB k ≠ nameB j := fun e => by
  have h1 : Nm.byN (nameN k) = Nm.byN (nameN j) := by
    have := congrArg (fun b : ByteArray => b.data.toList) e
    exact this
  exact h (congrArg Fin.val (names_ne ⟨k, hk⟩ ⟨j, hj⟩ h1))
/-- Which name is it? -/
theorem which (s : ByteArray) : (∃ k, k < 24 ∧ s = nameB k) ∨ ∀ k, k < 24 → s ≠ nameB k := by
  by_cases h : ∃ k, k < 24 ∧ s = nameB k
  · exact .inl h
  · exact .inr fun k hk e => h ⟨k, hk, e⟩

theorem both_apply (s : ByteArray) (v : Value) (ps : List PT) (hn : ps.length ≤ 10) : ∃ x y u e,
    (∀ W, PRd W v ps → Calls Tryd.prog 8 #[.string s, v] W fun r W' => r = .returned (.tuple #[.agg #[.int .i64 x, .int .i64 y, .string u], .int .i64 e]) ∧ Below W.heap.size W W') ∧
    (∀ W, PRd W v ps → Calls Tryd.prog 12 #[.string s, v] W fun r W' => r = .returned (.tuple #[.agg #[.int .i64 x, .int .i64 y, .string u], .int .i64 e]) ∧ Below W.heap.size W W') := by
  rcases which s with ⟨k, hk, rfl⟩ | hs
  · by_cases h15 : k < 15
    · by_cases hl : ps.length = arN k
      · obtain ⟨x, y, u, hd⟩ : ∃ x y u, (applyV k ps).1 = .agg #[.int .i64 x, .int .i64 y, .string u] := by
          unfold applyV
          split
          · exact doesV_shape k _ _
          · exact ⟨_, _, _, rfl⟩
        refine ⟨x, y, u, (applyV k ps).2, fun W h => ?_, fun W h => ?_⟩
        · rw [← hd]; exact apply_right k h15 v ps W h hl
        · rw [← hd]; exact rapply_right k h15 v ps W h hl
      · refine ⟨0, 0, Ev.bytes [], 2, fun W h => apply_wrong k h15 v ps W h hn hl, fun W h => ?_⟩
        refine rapply_no (nameB k) true (arityK k) (fun w => ?_) (fun _ w => rArity_at k hk w) v ps W h hn (fun _ => ?_)
        · have := rSimple_at k hk w
          rwa [show simpK k = true from Ev.blt_iff.2 h15] at this
        · rw [arity_ar k h15]; omega
    · refine ⟨0, 0, Ev.bytes [], 2, fun W h => apply_none (nameB k) (fun j hj => nameB_ne k j hk (by omega) (by omega)) v ps W h, fun W h => ?_⟩
      refine rapply_no (nameB k) false 0 (fun w => ?_) (fun h => by cases h) v ps W h hn (fun h => by cases h)
      have := rSimple_at k hk w
      rwa [show simpK k = false by unfold simpK; rw [← Bool.not_eq_true, Ev.blt_iff]; exact h15] at this
  · exact ⟨0, 0, Ev.bytes [], 2, fun W h => apply_none s (fun j hj => hs j (by omega)) v ps W h, fun W h => rapply_no s false 0 (fun w => rSimple_none s hs w) (fun h => by cases h) v ps W h hn (fun h => by cases h)⟩
theorem both_simple (s : ByteArray) : ∃ b, (∀ W, Calls Tryd.prog 13 #[.string s] W fun r W' => r = .returned (.bool b) ∧ Below W.heap.size W W') ∧ (∀ W, Calls Tryd.prog 14 #[.string s] W fun r W' => r = .returned (.bool b) ∧ Below W.heap.size W W') := by
  rcases which s with ⟨k, hk, rfl⟩ | hs
  · exact ⟨_, pSimple_at k hk, rSimple_at k hk⟩
  · exact ⟨_, simple_none s (fun j hj => hs j (by omega)), rSimple_none s hs⟩
theorem both_strict (s : ByteArray) : ∃ b, (∀ W, Calls Tryd.prog 10 #[.string s] W fun r W' => r = .returned (.int .i64 b) ∧ Below W.heap.size W W') ∧ (∀ W, Calls Tryd.prog 15 #[.string s] W fun r W' => r = .returned (.int .i64 b) ∧ Below W.heap.size W W') := by
  rcases which s with ⟨k, hk, rfl⟩ | hs
  · exact ⟨_, pStrict_at k hk, rStrict_at k hk⟩
  · exact ⟨_, strict_none s hs, rStrict_none s hs⟩
theorem both_takes (s : ByteArray) (i : Int) : ∃ b, (∀ W, Calls Tryd.prog 16 #[.string s, .int .i64 i] W fun r W' => r = .returned (.int .i64 b) ∧ Below W.heap.size W W') ∧ (∀ W, Calls Tryd.prog 17 #[.string s, .int .i64 i] W fun r W' => r = .returned (.int .i64 b) ∧ Below W.heap.size W W') := by
  rcases which s with ⟨k, hk, rfl⟩ | hs
  · exact ⟨_, pTakes_at k hk i, rTakes_at k hk i⟩
  · exact ⟨_, takes_none s (fun j hj => hs j (by omega)) i, rTakes_none s hs i⟩

set_option maxRecDepth 1000000 in
theorem livesRuns : Ev.isTrue (Ev.calls Tryd.prog Ev.noFacts 100000 60 5 [] Ev.Mem.start) = true := by kernel_rfl
theorem lives_true (w : World) : Calls Tryd.prog 5 #[] w fun e w' => e = .returned (.bool true) ∧ Below w.heap.size w w' := Ev.closed mix livesRuns w

set_option maxRecDepth 100000 in
set_option maxHeartbeats 8000000 in
theorem calls_walk (s : ByteArray) (v : Value) (ps : List PT) (i n : Int) (h0 : -9223372036854775808 ≤ n) (h1 : n ≤ 9223372036854775807) (w : World) (h : PRd w v ps) (hl : ps.length ≤ 10000000000000) (ht : Tb w) :
    Calls Tryd.prog 4 #[.string s, v, .int .i64 i, .int .i64 n] w fun e w' => e = .returned (.bool true) ∧ Below w.heap.size w w' := by
  obtain ⟨N, hN⟩ : ∃ N, ps.length = N := ⟨_, rfl⟩
  have H0 := Lib.hid h
  obtain ⟨a, cap, rfl, _⟩ := h
  rw [hN] at hl H0 ⊢
  by_cases hbig : 10 < N
  · have d0 : decide ((10 : Int) < (N : Int)) = true := by simp; omega
    clear hN
    go_enter Tryd.func4, Tryd.ntmps4
    go_wp2_with (go_at_call 5; refine (lives_true _).mono ?_; rintro e w0 ⟨rfl, b0⟩)
    go_ret
    exact ⟨rfl, b0⟩
  · have d0 : decide ((10 : Int) < (N : Int)) = false := by simp; omega
    obtain ⟨X, Y, U, E, hA1, hA2⟩ := both_apply s (.slice a N cap) ps (by omega)
    obtain ⟨bS, hS1, hS2⟩ := both_simple s
    obtain ⟨nT, hT1, hT2⟩ := both_strict s
    obtain ⟨nK, hK1, hK2⟩ := both_takes s i
    have A1 := Lib.hid hA1
    have A2 := Lib.hid hA2
    have S1 := Lib.hid hS1
    have S2 := Lib.hid hS2
    have T1 := Lib.hid hT1
    have T2 := Lib.hid hT2
    have K1 := Lib.hid hK1
    have K2 := Lib.hid hK2
    have W1 := Lib.hid (fun w ht => Show_any n h0 h1 w ht)
    have W2 := Lib.hid (fun w => rShow_any n h0 h1 w)
    obtain ⟨R, hR⟩ : ∃ R : ByteArray, ⟨(Lib.itoa n).toArray⟩ = R := ⟨_, rfl⟩
    rw [hR] at W1 W2
    have Htb := Lib.hid ht
    clear hN hA1 hA2 hS1 hS2 hT1 hT2 hK1 hK2 hR ht
    go_enter Tryd.func4, Tryd.ntmps4
    go_wp2_with (first | (go_at_call 5; refine (lives_true _).mono ?_; rintro e w0 ⟨rfl, b0⟩) | (go_at_call 8; refine (A1.out _ (H0.out.below b0)).mono ?_; rintro e w1 ⟨rfl, b1⟩; have C1 := (chain b0 b1).alloc (chain b0 b1).size (.cells #[.int .i64 X, .int .i64 Y, .string U] 26); have P1 := Blk.new w1 #[.int .i64 X, .int .i64 Y, .string U] 26) | (go_at_call 12; refine (A2.out _ (H0.out.below C1)).mono ?_; rintro e w2 ⟨rfl, b2⟩; have C2 := (chain C1 b2).alloc (chain C1 b2).size (.cells #[.int .i64 X, .int .i64 Y, .string U] 26); have P2 := Blk.new w2 #[.int .i64 X, .int .i64 Y, .string U] 26; have P12 := (P1.below b2 P1.lt).alloc (.cells #[.int .i64 X, .int .i64 Y, .string U] 26); have c0 := P12.cell 0; have c1 := P12.cell 1; have c2 := P12.cell 2; have d0 := P2.cell 0; have d1 := P2.cell 1; have d2 := P2.cell 2; simp only [List.getElem?_toArray, List.getElem?_cons_zero, List.getElem?_cons_succ] at c0 c1 c2 d0 d1 d2) | (go_at_call 13; refine (S1.out _).mono ?_; rintro e w3 ⟨rfl, b3⟩; have C3 := chain C2 b3) | (go_at_call 14; refine (S2.out _).mono ?_; rintro e w4 ⟨rfl, b4⟩; have C4 := chain C3 b4) | (go_at_call 10; refine (T1.out _).mono ?_; rintro e w5 ⟨rfl, b5⟩; have C5 := chain C4 b5) | (go_at_call 15; refine (T2.out _).mono ?_; rintro e w6 ⟨rfl, b6⟩; have C6 := chain C5 b6) | (go_at_call 16; refine (K1.out _).mono ?_; rintro e w7 ⟨rfl, b7⟩; have C7 := chain C6 b7) | (go_at_call 17; refine (K2.out _).mono ?_; rintro e w8 ⟨rfl, b8⟩; have C8 := chain C7 b8) | (go_at_call 11; refine (W1.out _ (Tb.on Htb.out C8)).mono ?_; rintro e w9 ⟨rfl, b9⟩; have C9 := chain C8 b9) | (go_at_call 18; refine (W2.out _).mono ?_; rintro e w10 ⟨rfl, b10⟩; have C10 := chain C9 b10) | (go_at_call 6; refine (Names_any _).mono ?_; rintro e w11 ⟨v11, rfl, t11, b11⟩; have C11 := chain C10 b11) | (go_at_call 20; refine (rNames_rd _).mono ?_; rintro e w12 ⟨v12, rfl, t12, b12⟩; have C12 := chain C11 b12; have t11' := t11.below b12) | (go_at_call 19; refine (same_texts _ _ refL _ t11' t12 (by decide +kernel)).mono ?_; rintro e w13 ⟨rfl, b13⟩; have C13 := chain C12 b13))
    go_ret
    exact ⟨rfl, C13⟩
end Go.Proofs.YtmgfgkikeflenaaDoor
