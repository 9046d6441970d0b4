/- prim.Apply at a name of the table. -/
import Derived.Test.YtmgfgkikeflenaaDoorPcC
import Derived.Shelf.Abstract
namespace Go.Proofs.YtmgfgkikeflenaaDoor
open Go.RowKit Go.Shelf
set_option linter.unusedSimpArgs false
set_option linter.unusedVariables false

theorem fn_enter (k : Nat) (hk : k < 15) : ∀ args w, (callFunc (fnN k) args).run Tryd.prog w = .ok (.enter (fnN k) args) w :=
  match k, hk with
  | 0, _ => enters_of Tryd.func36 (by kernel_rfl) rfl
  | 1, _ => enters_of Tryd.func38 (by kernel_rfl) rfl
  | 2, _ => enters_of Tryd.func39 (by kernel_rfl) rfl
  | 3, _ => enters_of Tryd.func61 (by kernel_rfl) rfl
  | 4, _ => enters_of Tryd.func61 (by kernel_rfl) rfl
  | 5, _ => enters_of Tryd.func43 (by kernel_rfl) rfl
  | 6, _ => enters_of Tryd.func45 (by kernel_rfl) rfl
  | 7, _ => enters_of Tryd.func46 (by kernel_rfl) rfl
  | 8, _ => enters_of Tryd.func47 (by kernel_rfl) rfl
  | 9, _ => enters_of Tryd.func48 (by kernel_rfl) rfl
  | 10, _ => enters_of Tryd.func49 (by kernel_rfl) rfl
  | 11, _ => enters_of Tryd.func50 (by kernel_rfl) rfl
  | 12, _ => enters_of Tryd.func51 (by kernel_rfl) rfl
  | 13, _ => enters_of Tryd.func52 (by kernel_rfl) rfl
  | 14, _ => enters_of Tryd.func53 (by kernel_rfl) rfl
theorem arN_two (k : Nat) : arN k = 1 ∨ arN k = 2 := by unfold arN; split <;> simp
def numJ (ps : List PT) (j i : Nat) : Int := if i < j then numAt ps i else 0
theorem numJ_set (ps : List PT) (j : Nat) (hj : j < 2) (p : PT) (hp : ps[j]? = some p) : (#[Value.int .i64 (numJ ps j 0), .int .i64 (numJ ps j 1)] : Array Value).setIfInBounds j (.int .i64 p.num) = #[.int .i64 (numJ ps (j + 1) 0), .int .i64 (numJ ps (j + 1) 1)] := by
  have h : j = 0 ∨ j = 1 := by omega
  rcases h with rfl | rfl
  · simp [numJ, numAt, hp]
  · simp [numJ, numAt, hp]
theorem numJ_cell (ps : List PT) (j : Nat) (hj : j < 2) : (#[Value.int .i64 (numJ ps j 0), .int .i64 (numJ ps j 1)] : Array Value)[j]? = some (.int .i64 0) := by
  have h : j = 0 ∨ j = 1 := by omega
  rcases h with rfl | rfl <;> simp [numJ]
theorem pat {W W' : World} {b o k : Nat} {ps : List PT} (hat : ∀ k x, ps[k]? = some x → ∀ j c, x.cells[j]? = some c → W.cell? ⟨b, o + k * 3 + j, none⟩ = some c) (key : ∀ o, W'.cell? ⟨b, o, none⟩ = W.cell? ⟨b, o, none⟩) (x : PT) (hx : ps[k]? = some x) :
    W'.cell? ⟨b, o + k * 3, none⟩ = some (.int .i64 x.kind) ∧ W'.cell? ⟨b, o + k * 3 + 1, none⟩ = some (.int .i64 x.num) ∧ W'.cell? ⟨b, o + k * 3 + 2, none⟩ = some (.string x.text) :=
  ⟨(key _).trans (hat k x hx 0 _ rfl), (key _).trans (hat k x hx 1 _ rfl), (key _).trans (hat k x hx 2 _ rfl)⟩

theorem store_fn (W : World) (x : Value) (t : TypeId) (F : FuncId) (cs : Array Value) : (Go.store ⟨W.heap.size, 1, none⟩ (.func (.func F) #[] cs)).run Tryd.prog (W.alloc (.cells #[x, .nilFunc] t)) = .ok () (W.alloc (.cells #[x, .func (.func F) #[] cs] t)) := by
  have h := run_store Tryd.prog (W.alloc (.cells #[x, .nilFunc] t)) ⟨W.heap.size, 1, none⟩ (.func (.func F) #[] cs) .plain rfl
  have B := Blk.new W #[x, .nilFunc] t
  have c := B.cell 1
  simp only [List.getElem?_toArray, List.getElem?_cons_zero, List.getElem?_cons_succ] at c
  rw [c, B.free 1] at h
  simp only [Bool.false_eq_true, if_false] at h
  refine h.trans ?_
  rw [World.setCell_alloc_at _ _ _ _ _ rfl]
  simp

set_option maxRecDepth 100000 in
set_option maxHeartbeats 8000000 in
theorem apply_wrong (k : Nat) (hk : k < 15) (v : Value) (ps : List PT) (w : World) (h : PRd w v ps) (hn : ps.length ≤ 10) (hl : ps.length ≠ arN k) :
    Calls Tryd.prog 8 #[.string (nameB k), v] w fun e w' => e = .returned (.tuple #[pV 0 0 [], .int .i64 2]) ∧ Below w.heap.size w w' := by
  obtain ⟨a, cap, rfl, _⟩ := h
  obtain ⟨N, hN⟩ : ∃ N, ps.length = N := ⟨_, rfl⟩
  rw [hN] at hl ⊢
  have e1 : ((N : Int) != ((arN k : Nat) : Int)) = true := by rw [bne_iff_ne]; omega
  have B0 := Blk.new w zeroP 26
  have l0 : Below w.heap.size w (w.alloc (.cells zeroP 26)) := (Below.refl _ w).alloc (Nat.le_refl _) _
  have HT := Lib.hid (fun w => (table_any w).mono (R' := fun e w' => ∃ b v, e = .returned (.map (some b)) ∧ Below w.heap.size w w' ∧ (Instr.lookup 46 (.map (some b)) (.string (nameB k)) true).run Tryd.prog w' = .ok (.tuple #[v, .bool true]) w' ∧ EntryAt w' k v) (by
    rintro e w' ⟨b, he, hb, h1, _⟩
    obtain ⟨v, h2, h3⟩ := h1 k hk
    exact ⟨b, v, he, hb, h2, h3⟩))
  generalize nameB k = s at HT ⊢
  obtain ⟨ar, har⟩ : ∃ ar, arN k = ar := ⟨_, rfl⟩
  rw [har] at e1 hl
  go_enter Tryd.func8, Tryd.ntmps8
  go_wp2_with (go_at_call 25; refine (HT.out _).mono ?_; rintro e w1 ⟨b, v, rfl, b1, hlk, bt, o, c, cs, rfl, hbt, hcl, hcs⟩; rw [har] at hlk; have hst := store_fn w1 (.slice (some ⟨bt, o, none⟩) ar c) 50 (fnN k) cs; have hR := (B0.below b1 B0.lt).alloc (.cells #[.slice (some ⟨bt, o, none⟩) ar c, .func (.func (fnN k)) #[] cs] 50); have hE := Blk.new w1 #[.slice (some ⟨bt, o, none⟩) ar c, .func (.func (fnN k)) #[] cs] 50; have hB1 := (chain l0 b1).alloc (chain l0 b1).size (.cells #[.slice (some ⟨bt, o, none⟩) ar c, .func (.func (fnN k)) #[] cs] 50); have c0 := hR.cell 0; have c1 := hR.cell 1; have c2 := hR.cell 2; have g := hR.free; have x0 := hE.cell 0; simp only [zeroP, List.getElem?_toArray, List.getElem?_cons_zero, List.getElem?_cons_succ] at c0 c1 c2 x0)
  have hR2 := stored hR 0 0 ⟨#[]⟩
  have hb := stored_below hB1 (Nat.le_refl _) (.int .i64 0) (.int .i64 0) (.string ⟨#[]⟩)
  generalize (((w1.alloc (.cells #[.slice (some ⟨bt, o, none⟩) ar c, .func (.func (fnN k)) #[] cs] 50)).setCell ⟨w.heap.size, 0, none⟩ (.int .i64 0)).setCell ⟨w.heap.size, 1, none⟩ (.int .i64 0)).setCell ⟨w.heap.size, 2, none⟩ (.string ⟨#[]⟩) = W2 at hR2 hb ⊢
  have f0 := hR2.cell 0
  have f1 := hR2.cell 1
  have f2 := hR2.cell 2
  simp only [List.getElem?_toArray, List.getElem?_cons_zero, List.getElem?_cons_succ] at f0 f1 f2
  refine bodyPost_ret (v := .tuple #[.agg #[.int .i64 0, .int .i64 0, .string ⟨#[]⟩], .int .i64 2]) (by simp [results, Tryd.results8, go_sem, f0, f1, f2]) rfl ?_
  exact ⟨rfl, hb⟩

theorem doesV_shape (k : Nat) (a b : Int) : ∃ x y u, doesV k a b = .agg #[.int .i64 x, .int .i64 y, .string u] := by
  unfold doesV
  split <;> first | exact ⟨_, _, _, rfl⟩ | (split <;> exact ⟨_, _, _, rfl⟩)

set_option maxRecDepth 100000 in
set_option maxHeartbeats 8000000 in
theorem apply_right (k : Nat) (hk : k < 15) (v : Value) (ps : List PT) (w : World) (h : PRd w v ps) (hl : ps.length = arN k) :
    Calls Tryd.prog 8 #[.string (nameB k), v] w fun e w' => e = .returned (.tuple #[(applyV k ps).1, .int .i64 (applyV k ps).2]) ∧ Below w.heap.size w w' := by
  obtain ⟨a, cap, rfl, hat0⟩ := h
  have Hat := Lib.hid hat0
  obtain ⟨ar, har⟩ : ∃ ar, arN k = ar := ⟨_, rfl⟩
  have hl' : ps.length = ar := hl.trans har
  have HL := Lib.hid hl'
  rw [hl']
  have har2 : ar = 1 ∨ ar = 2 := by rw [← har]; exact arN_two k
  have e1 : ((ar : Int) != (ar : Int)) = false := by simp
  have B0 := Blk.new w zeroP 26
  have l0 : Below w.heap.size w (w.alloc (.cells zeroP 26)) := (Below.refl _ w).alloc (Nat.le_refl _) _
  have HT := Lib.hid (fun w => (table_any w).mono (R' := fun e w' => ∃ b v, e = .returned (.map (some b)) ∧ Below w.heap.size w w' ∧ (Instr.lookup 46 (.map (some b)) (.string (nameB k)) true).run Tryd.prog w' = .ok (.tuple #[v, .bool true]) w' ∧ EntryAt w' k v) (by
    rintro e w' ⟨b, he, hb, h1, _⟩
    obtain ⟨v, h2, h3⟩ := h1 k hk
    exact ⟨b, v, he, hb, h2, h3⟩))
  have Hbad := Lib.hid (show (∃ p ∈ ps, badK k p = true) → applyV k ps = (pV 0 0 [], 2) from fun ⟨p, hp, hb⟩ => by
    unfold applyV
    rw [if_neg]
    rintro ⟨_, h⟩
    rw [List.all_eq_true] at h
    have := h p hp
    rw [hb] at this
    cases this)
  have Hgood := Lib.hid (show (∀ p ∈ ps.take ar, badK k p = false) → applyV k ps = (doesV k (numAt ps 0) (numAt ps 1), 0) from fun h => by
    unfold applyV
    rw [if_pos]
    refine ⟨hl, ?_⟩
    rw [List.all_eq_true]
    intro p hp
    rw [h p (by rw [List.take_of_length_le (by omega)]; exact hp)]
    rfl)
  have eg := fn_enter k hk
  have HD := Lib.hid (fun a b cs W h => does_at k hk a b cs W h)
  obtain ⟨F, hF⟩ : ∃ F, fnN k = F := ⟨_, rfl⟩
  rw [hF] at eg
  obtain ⟨kd, hkd⟩ : ∃ kd, kdN k = kd := ⟨_, rfl⟩
  generalize nameB k = s at HT ⊢
  clear hat0 hl hl'
  go_enter Tryd.func8, Tryd.ntmps8
  go_wp2_with (go_at_call 25; refine (HT.out _).mono ?_; rintro e w1 ⟨b, v, rfl, b1, hlk, bt, o, c, cs, rfl, hbt, hcl, hcs⟩; rw [har, hF] at hlk; have hst := store_fn w1 (.slice (some ⟨bt, o, none⟩) ar c) 50 F cs; have hR := (B0.below b1 B0.lt).alloc (.cells #[.slice (some ⟨bt, o, none⟩) ar c, .func (.func F) #[] cs] 50); have hE := Blk.new w1 #[.slice (some ⟨bt, o, none⟩) ar c, .func (.func F) #[] cs] 50; have hB1 := (chain l0 b1).alloc (chain l0 b1).size (.cells #[.slice (some ⟨bt, o, none⟩) ar c, .func (.func F) #[] cs] 50); have x0 := hE.cell 0; simp only [List.getElem?_toArray, List.getElem?_cons_zero] at x0)
  have hN := Blk.new (w1.alloc (.cells #[.slice (some ⟨bt, o, none⟩) ar c, .func (.func F) #[] cs] 50)) #[.int .i64 0, .int .i64 0] 57
  have hR0 := hR.alloc (.cells #[.int .i64 0, .int .i64 0] 57)
  have hE0 := hE.alloc (.cells #[.int .i64 0, .int .i64 0] 57)
  have hB0 := hB1.alloc hB1.size (.cells #[.int .i64 0, .int .i64 0] 57)
  have hC0 := ((Below.refl _ w1).alloc (Nat.le_refl _) (.cells #[.slice (some ⟨bt, o, none⟩) ar c, .func (.func F) #[] cs] 50)).alloc (by simp) (.cells #[.int .i64 0, .int .i64 0] 57)
  rw [World.size_alloc] at hN
  generalize (w1.alloc (.cells #[.slice (some ⟨bt, o, none⟩) ar c, .func (.func F) #[] cs] 50)).alloc (.cells #[.int .i64 0, .int .i64 0] 57) = W0 at hN hR0 hE0 hB0 hC0 ⊢
  have hRE : w.heap.size ≠ w1.heap.size := by have := (B0.below b1 B0.lt).lt; omega
  have hRN : w.heap.size ≠ w1.heap.size + 1 := by have := (B0.below b1 B0.lt).lt; omega
  have hww : w.heap.size ≤ w1.heap.size := (chain l0 b1).size
  have Hcl := Lib.hid hcl
  have Hcs := Lib.hid hcs
  obtain ⟨eb, heb⟩ : ∃ eb, w1.heap.size = eb := ⟨_, rfl⟩
  rw [heb] at hN hE0 hRE hRN hww
  have hC0 := Lib.hid hC0
  have Hbt := Lib.hid hbt
  clear hlk hst hR hE hB1 x0 hcl hcs b1 B0 l0 hbt
  rw [heb]
  have Heb := Lib.hid heb
  clear heb
  go_loopw [30] (fun i wr => ∃ j : Nat, i = .int .i64 j ∧ j ≤ ar ∧ Hid (∀ p ∈ ps.take j, badK k p = false) ∧ Blk wr w.heap.size zeroP ∧ Blk wr eb #[.slice (some ⟨bt, o, none⟩) ar c, .func (.func F) #[] cs] ∧ Blk wr (eb + 1) #[.int .i64 (numJ ps j 0), .int .i64 (numJ ps j 1)] ∧ Below w.heap.size w wr ∧ Hid (Below w1.heap.size w1 wr)) (fun i _ => ar - (intOf i).toNat)
  case atStart => exact ⟨0, rfl, Nat.zero_le _, Lib.hid (by simp), hR0, hE0, by simpa [numJ] using hN, hB0, hC0⟩
  case round =>
    clear hN hR0 hE0 hB0 hC0
    obtain ⟨j, rfl, hj, Hg, hR, hE, hN, hB, hC⟩ := hrel
    by_cases hlt : j < ar
    · have hlt2 : decide ((j : Int) < (ar : Int)) = true := by simp; omega
      have hlt3 : decide (j < ar) = true := by simp; omega
      have hkl : j < ps.length := by rw [HL.out]; exact hlt
      obtain ⟨b', o', rfl, hbl, hat⟩ := Hat.out (by omega)
      have key : ∀ o, wr.cell? ⟨b', o, none⟩ = w.cell? ⟨b', o, none⟩ := fun o => hB.cell (p := ⟨b', o, none⟩) hbl
      have hX := List.getElem?_eq_getElem hkl
      obtain ⟨c0, c1, c2⟩ := pat hat key ps[j] hX
      have hset := numJ_set ps j (by omega) ps[j] hX
      have hcell := numJ_cell ps j (by omega)
      have hnx : ps.take (j + 1) = ps.take j ++ [ps[j]] := List.take_succ_eq_append_getElem hkl
      have hmem : ps[j] ∈ ps := List.getElem_mem hkl
      have hfk := fork k ps[j]
      generalize ps[j] = p at c0 c1 c2 hset hnx hmem hfk
      have kc : wr.cell? ⟨bt, o + j, none⟩ = some (.int .i64 kd) := by
        rw [hC.out.cell (p := ⟨bt, o + j, none⟩) Hbt.out, Hcl.out j (by rw [har]; exact hlt), hkd]
      have hi0 : (0 : Int) ≤ (j : Int) := by omega
      have hj2 : (j : Int) < 2 := by omega
      clear hat key hX
      go_upto_region 8 with fail
      have hT := Blk.new wr #[.int .i64 p.kind, .int .i64 p.num, .string p.text] 26
      have hR1 := hR.alloc (.cells #[.int .i64 p.kind, .int .i64 p.num, .string p.text] 26)
      have hE1 := hE.alloc (.cells #[.int .i64 p.kind, .int .i64 p.num, .string p.text] 26)
      have hN1 := hN.alloc (.cells #[.int .i64 p.kind, .int .i64 p.num, .string p.text] 26)
      have hB1 := hB.alloc hB.size (.cells #[.int .i64 p.kind, .int .i64 p.num, .string p.text] 26)
      have hC1 := Lib.hid (hC.out.alloc hC.out.size (.cells #[.int .i64 p.kind, .int .i64 p.num, .string p.text] 26))
      have kc1 : (wr.alloc (.cells #[.int .i64 p.kind, .int .i64 p.num, .string p.text] 26)).cell? ⟨bt, o + j, none⟩ = some (.int .i64 kd) := by
        rw [hC1.out.cell (p := ⟨bt, o + j, none⟩) Hbt.out, Hcl.out j (by rw [har]; exact hlt), hkd]
      generalize wr.alloc (.cells #[.int .i64 p.kind, .int .i64 p.num, .string p.text] 26) = W1 at hT hR1 hE1 hN1 hB1 hC1 kc1 ⊢
      clear hR hE hN hB hC kc c0 c1 c2
      generalize wr.heap.size = tb at hT ⊢
      have q0 := hT.cell 0
      have q1 := hT.cell 1
      have q2 := hT.cell 2
      have e0 := hE1.cell 0
      simp only [List.getElem?_toArray, List.getElem?_cons_zero, List.getElem?_cons_succ] at q0 q1 q2 e0
      rcases hfk with ⟨hb1, hcase⟩ | ⟨hb0, hcase⟩
      · have Hv := Lib.hid (Hbad.out ⟨p, hmem, hb1⟩)
        clear hset hnx hmem hb1 hN1
        rw [hkd] at hcase
        rcases hcase with f1 | ⟨f1, f2⟩ | ⟨f1, f2, f3, f4⟩ | ⟨f1, f2, f3, f4, f5⟩
        all_goals
          go_quiet (fail)
          have hR2 := hR1.drewN nq
          have hB2 := below_drewN hB1 nq
          generalize W1.drewN nq = W2 at hR2 hB2 ⊢
          have r0 := hR2.cell 0
          have r1 := hR2.cell 1
          have r2 := hR2.cell 2
          have rf := hR2.free
          simp only [zeroP, List.getElem?_toArray, List.getElem?_cons_zero, List.getElem?_cons_succ] at r0 r1 r2
          clear hT hR1 hE1 hB1 hC1 kc1 q0 q1 q2 e0
          go_wp2
          have hR3 := stored hR2 0 0 ⟨#[]⟩
          have hb := stored_below hB2 (Nat.le_refl _) (.int .i64 0) (.int .i64 0) (.string ⟨#[]⟩)
          generalize ((W2.setCell ⟨w.heap.size, 0, none⟩ (.int .i64 0)).setCell ⟨w.heap.size, 1, none⟩ (.int .i64 0)).setCell ⟨w.heap.size, 2, none⟩ (.string ⟨#[]⟩) = W3 at hR3 hb ⊢
          have f0 := hR3.cell 0
          have f1 := hR3.cell 1
          have f2 := hR3.cell 2
          simp only [List.getElem?_toArray, List.getElem?_cons_zero, List.getElem?_cons_succ] at f0 f1 f2
          refine bodyPost_ret (v := .tuple #[.agg #[.int .i64 0, .int .i64 0, .string ⟨#[]⟩], .int .i64 2]) (by simp [results, Tryd.results8, go_sem, f0, f1, f2]) rfl ?_
          rw [Hv.out]
          exact ⟨rfl, hb⟩
      · have Hg2 := Lib.hid (show ∀ q ∈ ps.take (j + 1), badK k q = false from fun q hq => by
          rw [hnx] at hq
          rcases List.mem_append.1 hq with hq | hq
          · exact Hg.out q hq
          · obtain rfl := List.mem_singleton.1 hq; exact hb0)
        clear hnx hmem hb0
        rw [hkd] at hcase
        rcases hcase with ⟨f1, f2, f3⟩ | ⟨f1, f2, f3, f4, f5⟩
        all_goals
          go_quiet (fail)
          have hR2 := hR1.drewN nq
          have hE2 := hE1.drewN nq
          have hN2 := hN1.drewN nq
          have hT2 := hT.drewN nq
          have hB2 := below_drewN hB1 nq
          have hC2 := Lib.hid (below_drewN hC1.out nq)
          generalize W1.drewN nq = W2 at hR2 hE2 hN2 hT2 hB2 hC2 ⊢
          have t1 := hT2.cell 1
          simp only [List.getElem?_toArray, List.getElem?_cons_zero, List.getElem?_cons_succ] at t1
          have n0 := (hN2.cell j).trans hcell
          have nf := hN2.free
          clear hT hR1 hE1 hB1 hC1 kc1 q0 q1 q2 e0 hN1
          go_wp2
          have hN3 := hN2.set j (.int .i64 p.num) (by simp; omega)
          rw [hset] at hN3
          go_roundw
          case rel => exact ⟨j + 1, by go_num, by omega, Hg2, hR2.other _ _ hRN, hE2.other _ _ (by show eb ≠ eb + 1; omega), hN3, hB2.setCell (p := ⟨eb + 1, j, none⟩) (by show w.heap.size ≤ eb + 1; omega) _, Lib.hid (hC2.out.setCell (p := ⟨eb + 1, j, none⟩) (by show w1.heap.size ≤ eb + 1; rw [Heb.out]; omega) _)⟩
          case measure => simp [intOf]; omega
    · have hlt2 : decide ((j : Int) < (ar : Int)) = false := by simp; omega
      have hlt3 : decide (j < ar) = false := by simp; omega
      obtain rfl : j = ar := by omega
      have Hv := Lib.hid (Hgood.out Hg.out)
      obtain ⟨X, Y, U, hd⟩ := doesV_shape k (numAt ps 0) (numAt ps 1)
      have hn0 : numJ ps j 0 = numAt ps 0 := by unfold numJ; rw [if_pos (by omega)]
      have hn1 : numJ ps j 1 = numAt ps 1 := by
        unfold numJ
        split
        · rfl
        · unfold numAt
          rw [List.getElem?_eq_none (by rw [HL.out]; omega)]
      rw [hn0, hn1] at hN
      have hcs2 : match divN k with | none => cs = #[] | some g => ∃ pf p, cs = #[.pointer (some ⟨pf, p, none⟩)] ∧ pf < wr.heap.size ∧ wr.cell? ⟨pf, p, none⟩ = some (.func (.func g) #[] #[]) := by
        have := Hcs.out
        cases hdv : divN k with
        | none => rw [hdv] at this; exact this
        | some g =>
          rw [hdv] at this
          obtain ⟨pf, p, h1, h2, h3⟩ := this
          exact ⟨pf, p, h1, Nat.lt_of_lt_of_le h2 hC.out.size, (hC.out.cell (p := ⟨pf, p, none⟩) h2).trans h3⟩
      have KD := HD.out (numAt ps 0) (numAt ps 1) cs wr hcs2
      rw [hF, hd] at KD
      have KD := Lib.hid KD
      have x1 := hE.cell 1
      have m0 := hN.cell 0
      have m1 := hN.cell 1
      simp only [List.getElem?_toArray, List.getElem?_cons_zero, List.getElem?_cons_succ] at x1 m0 m1
      clear hn0 hn1 hcs2
      go_wp2_with (go_at_fn F; refine KD.out.mono ?_; rintro e w2 ⟨rfl, b2⟩; have hR2 := hR.below b2 hR.lt; have r0 := hR2.cell 0; have r1 := hR2.cell 1; have r2 := hR2.cell 2; have rf := hR2.free; simp only [zeroP, List.getElem?_toArray, List.getElem?_cons_zero, List.getElem?_cons_succ] at r0 r1 r2)
      have hR3 := stored hR2 X Y U
      have hb := stored_below (chain hB b2) (Nat.le_refl _) (.int .i64 X) (.int .i64 Y) (.string U)
      generalize ((w2.setCell ⟨w.heap.size, 0, none⟩ (.int .i64 X)).setCell ⟨w.heap.size, 1, none⟩ (.int .i64 Y)).setCell ⟨w.heap.size, 2, none⟩ (.string U) = W3 at hR3 hb ⊢
      have f0 := hR3.cell 0
      have f1 := hR3.cell 1
      have f2 := hR3.cell 2
      simp only [List.getElem?_toArray, List.getElem?_cons_zero, List.getElem?_cons_succ] at f0 f1 f2
      refine bodyPost_ret (v := .tuple #[.agg #[.int .i64 X, .int .i64 Y, .string U], .int .i64 0]) (by simp [results, Tryd.results8, go_sem, f0, f1, f2]) rfl ?_
      rw [Hv.out, hd]
      exact ⟨rfl, hb⟩
end Go.Proofs.YtmgfgkikeflenaaDoor
