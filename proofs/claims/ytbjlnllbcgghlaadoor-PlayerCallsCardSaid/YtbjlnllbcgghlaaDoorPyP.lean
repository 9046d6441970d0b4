/- The program's Parse. -/
import Derived.Test.YtbjlnllbcgghlaaDoorPyO
namespace Go.Proofs.YtbjlnllbcgghlaaDoor
open Go.RowKit Go.Shelf
set_option linter.unusedSimpArgs false
set_option linter.unusedVariables false

/-- Parse's answer. -/
def ParsePost (s : ByteArray) (w : World) (e : Ending) (w' : World) : Prop := ∃ v l er at_, parseK s = (l, er, at_) ∧ e = .returned (.tuple #[v, .agg #[.int .i64 er, .int .i64 at_]]) ∧ Pls w' v l ∧ Below w.heap.size w w'
theorem ParsePost.mk {s : ByteArray} {w w' : World} {e : Ending} {v : Value} {l : List PlD} {er at_ : Int} (h1 : parseK s = (l, er, at_)) (h2 : e = .returned (.tuple #[v, .agg #[.int .i64 er, .int .i64 at_]])) (h3 : Pls w' v l) (h4 : Below w.heap.size w w') : ParsePost s w e w' := ⟨v, l, er, at_, h1, h2, h3, h4⟩
theorem Pls.emp (w : World) : Pls w (.slice none 0 0) [] := ⟨none, 0, rfl, fun h => by simp at h⟩
structure PSt (s : ByteArray) (w wr : World) (b : Nat) (at_ : Nat) (v : Value) (us : List (PlD × Value)) : Prop where
  bel : Below w.heap.size w wr
  bw : w.heap.size = b
  res : Blk wr b #[.int .i64 0, .int .i64 0]
  scn : Blk wr (b + 1) #[.string s, .int .i64 (at_ : Int)]
  own : POwn wr (b + 2) v us
  len : us.length ≤ at_
theorem PSt.below {s : ByteArray} {w wr wr' : World} {b at_ : Nat} {v : Value} {us : List (PlD × Value)} (h : PSt s w wr b at_ v us) (hb : Below wr.heap.size wr wr') : PSt s w wr' b at_ v us :=
  ⟨chain h.bel hb, h.bw, h.res.below hb h.res.lt, h.scn.below hb h.scn.lt, h.own.below hb, h.len⟩
theorem PSt.next {s : ByteArray} {w wr w1 : World} {b at_ at2 : Nat} {v : Value} {us : List (PlD × Value)} (h : PSt s w wr b at_ v us) (hs : Blk w1 (b + 1) #[.string s, .int .i64 (at2 : Int)]) (g : wr.grownBy w1 (some (b + 1))) (hl : us.length ≤ at2) : PSt s w w1 b at2 v us :=
  ⟨below_grown_new h.bel g (by have := h.bw; omega), h.bw, h.res.of_same (g.block b h.res.lt (fun e => by simp at e)) g.size, hs, h.own.other g (by omega), hl⟩
/-- What the result's two stores leave. -/
theorem PSt.fin {s : ByteArray} {w wr : World} {b at_ : Nat} {v : Value} {us : List (PlD × Value)} (h : PSt s w wr b at_ v us) (x0 x1 : Value) :
    Below w.heap.size w ((wr.setCell ⟨b, 0, none⟩ x0).setCell ⟨b, 1, none⟩ x1) ∧ ((wr.setCell ⟨b, 0, none⟩ x0).setCell ⟨b, 1, none⟩ x1).cell? ⟨b, 0, none⟩ = some x0 ∧ ((wr.setCell ⟨b, 0, none⟩ x0).setCell ⟨b, 1, none⟩ x1).cell? ⟨b, 1, none⟩ = some x1 ∧
    (wr.setCell ⟨b, 0, none⟩ x0).cell? ⟨b, 0, none⟩ = some x0 ∧ Pls ((wr.setCell ⟨b, 0, none⟩ x0).setCell ⟨b, 1, none⟩ x1) v (us.map (·.1)) := by
  have hw := h.bw
  have g := grown_trans (grown_set wr b 0 x0) (grown_set _ b 1 x1)
  refine ⟨below_grown_new h.bel g (by omega), ((h.res.set 0 x0 (by simp)).set 1 x1 (by simp)).cell 0, ((h.res.set 0 x0 (by simp)).set 1 x1 (by simp)).cell 1, (h.res.set 0 x0 (by simp)).cell 0, (h.own.other g (by omega)).pls⟩
/-- A play that was read goes behind the others. -/
theorem PSt.push {s : ByteArray} {w w1 w2 W : World} {b at2 : Nat} {v : Value} {us : List (PlD × Value)} (h1 : PSt s w w1 b at2 v us) (hl : us.length + 1 ≤ at2) (hs : at2 ≤ 1000000) {x : PlD} {vs : Value} (hv : Held w1.heap.size w2.heap.size w2 (fun W => Bts W vs x.bytes)) (hb2 : Below w1.heap.size w1 w2) (hb3 : Below w2.heap.size w2 W) (a : Nat) (hc : CellsAt W a 0 [.int .i64 x.kind, .int .i64 x.n, vs]) (hone : vs.oneCell' = true) :
    ∃ v' W', (Builtin.append_ #[24, 24] 24 #[v, .slice (some ⟨a, 0, none⟩) 1 1]).run Tryd.prog W = .ok v' W' ∧ PSt s w W' b at2 v' (us ++ [(x, vs)]) := by
  have hw := h1.bw
  have hz := h1.bel.size
  have h2 := h1.below hb2
  have h3 := h2.below hb3
  have hlt := h1.scn.lt
  obtain ⟨v', W', k1, k2, k3, k4, k5⟩ := h3.own.push x vs a hc hone w1.heap.size w2.heap.size (by omega) (hv.below hb3) (fun g hg => .inl (own_lt h1.own.row g hg)) (by omega) (by have := hb2.size; have := hb3.size; omega)
  exact ⟨v', W', k1, (h3.bel.trans (k3.mono (by omega))), hw, h3.res.below k3 (by omega), h3.scn.below k3 (by omega), k2, by simp; omega⟩
set_option maxRecDepth 100000 in
set_option maxHeartbeats 8000000 in
theorem parse_any (s : ByteArray) (w : World) (hs : s.size ≤ 1000000) (hL : LayP w) :
    Calls Tryd.prog 7 #[.string s] w fun e w' => ParsePost s w e w' := by
  obtain ⟨b, hb⟩ : ∃ b, w.heap.size = b := ⟨_, rfl⟩
  have l1 : Below w.heap.size w (w.alloc (.cells #[.int .i64 0, .int .i64 0] 27)) := (Below.refl _ w).alloc (Nat.le_refl _) _
  have R1 := Blk.new w #[.int .i64 0, .int .i64 0] 27
  have z1 : (w.alloc (.cells #[.int .i64 0, .int .i64 0] 27)).heap.size = b + 1 := by simp [hb]
  rw [hb] at R1
  go_enter Tryd.func7, Tryd.ntmps7
  go_upto_region 1 with fail
  generalize w.alloc (.cells #[.int .i64 0, .int .i64 0] 27) = W1 at l1 R1 z1 ⊢
  have l2 : Below W1.heap.size W1 (W1.alloc (.cells #[.string s, .int .i64 0] 48)) := (Below.refl _ W1).alloc (Nat.le_refl _) _
  have R2 := Blk.new W1 #[.string s, .int .i64 0] 48
  have z2 : (W1.alloc (.cells #[.string s, .int .i64 0] 48)).heap.size = b + 2 := by simp [z1]
  rw [z1] at R2
  go_upto_region 2 with fail
  generalize W1.alloc (.cells #[.string s, .int .i64 0] 48) = W2 at l2 R2 z2 ⊢
  have S0 := Lib.hid (show PSt s w W2 b 0 (.slice none 0 0) [] from ⟨chain l1 l2, hb, R1.below l2 R1.lt, R2, POwn.nil _ _, Nat.le_refl _⟩)
  have hbd : b = w.heap.size := hb.symm
  have HBD := Lib.hid hb
  try simp only [hb, z1]
  clear l1 l2 R1 R2 z2 hb hbd
  go_wp2
  go_loopw [5] (fun o wr => ∃ (at_ : Nat) (us : List (PlD × Value)), Hid (PSt s w wr b at_ o us) ∧ Hid (GoS s at_ (us.map (·.1)))) (fun _ wr => s.size - (intOf ((wr.cell? ⟨b + 1, 1, none⟩).getD undef)).toNat)
  case atStart => exact ⟨0, [], S0, Lib.hid (GoS.start s)⟩
  case round =>
    obtain ⟨at_, us, S, G⟩ := hrel
    have hat := G.out.1
    have c1 : wr.cell? ⟨b + 1, 1, none⟩ = _ := S.out.scn.cell 1
    simp only [List.getElem?_toArray, List.getElem?_cons_zero, List.getElem?_cons_succ] at c1
    obtain ⟨ao, co, hvo⟩ := S.out.own.shape
    by_cases hlt : at_ < s.size
    · have hlt2 : decide ((at_ : Int) < (s.size : Int)) = true := by simp; omega
      have hlt3 : decide (at_ < s.size) = true := by simp; omega
      have KN := next_any s at_ (b + 1) wr S.out.scn hat hs
      go_upto_region 4 with fail
      clear c1
      go_wp2_with (go_at_call 22; refine KN.mono ?_; rintro r1 w1 ⟨t, en, at2, rfl, hN, hR1, hG⟩; have HN := Lib.hid hN; have S1 := Lib.hid (And.intro hR1 hG); clear hN hR1 hG)
      have hen := HN.out
      have S2 := Lib.hid (S.out.next S1.out.1 S1.out.2 (by
        have := S.out.len
        have := hen.2.2.2.2
        omega))
      have KR := read_any t w1 (by have := hen.2.2.1; omega) (hL.on S2.out.bel)
      clear hen KN
      go_at_call 23
      refine KR.mono ?_
      rintro r2 w2 ⟨v2, bb, rfl, ⟨K, N, a, n, c, rfl⟩, hb2, hbt, hbf⟩
      have HB2 := Lib.hid hb2
      have HT := Lib.hid hbt
      have HF := Lib.hid hbf
      have S3 := Lib.hid (S2.out.below hb2)
      have l3 : Below w2.heap.size w2 (w2.alloc (.cells #[.int .i64 K, .int .i64 N, .slice a n c] 34)) := (Below.refl _ w2).alloc (Nat.le_refl _) _
      have R3 := Blk.new w2 #[.int .i64 K, .int .i64 N, .slice a n c] 34
      have S4 := Lib.hid (S3.out.below l3)
      have L3 := Lib.hid l3
      clear hbt hbf hb2 KR l3
      go_upto_region 6 with fail
      generalize w2.alloc (.cells #[.int .i64 K, .int .i64 N, .slice a n c] 34) = w3 at R3 S4 L3 ⊢
      generalize w2.heap.size = b3 at R3 ⊢
      have d0 : w3.cell? ⟨b3, 0, none⟩ = _ := R3.cell 0
      have d1 : w3.cell? ⟨b3, 1, none⟩ = _ := R3.cell 1
      have d2 : w3.cell? ⟨b3, 2, none⟩ = _ := R3.cell 2
      have e0 : w3.cell? ⟨b, 0, none⟩ = _ := S4.out.res.cell 0
      have e1 : w3.cell? ⟨b, 1, none⟩ = _ := S4.out.res.cell 1
      simp only [List.getElem?_toArray, List.getElem?_cons_zero, List.getElem?_cons_succ] at d0 d1 d2 e0 e1
      have y0 := S4.out.res.free 0
      have y1 := S4.out.res.free 1
      have HR3 := Lib.hid R3
      clear R3
      obtain ⟨f0, f1, f2, f3, -⟩ := S4.out.fin (.int .i64 6) (.int .i64 at_)
      rcases en with _ | _
      · have HP := Lib.hid (show parseK s = ([], 6, (at_ : Int)) from G.out.no hlt (HN.out.2.1 rfl))
        rcases bb with _ | _
        · go_wp2
          refine bodyPost_ret (v := .tuple #[.slice none 0 0, .agg #[.int .i64 6, .int .i64 at_]]) (by simp [results, Tryd.results7, go_sem, f1, f2, f3]) rfl ?_
          exact ParsePost.mk HP.out rfl (Pls.emp _) f0
        · go_wp2
          refine bodyPost_ret (v := .tuple #[.slice none 0 0, .agg #[.int .i64 6, .int .i64 at_]]) (by simp [results, Tryd.results7, go_sem, f1, f2, f3]) rfl ?_
          exact ParsePost.mk HP.out rfl (Pls.emp _) f0
      · obtain ⟨o, ho, rfl, rfl⟩ := HN.out.1 rfl
        rcases bb with _ | _
        · have HP := Lib.hid (show parseK s = ([], 6, (at_ : Int)) from G.out.bad ho (HF.out rfl))
          go_wp2
          refine bodyPost_ret (v := .tuple #[.slice none 0 0, .agg #[.int .i64 6, .int .i64 at_]]) (by simp [results, Tryd.results7, go_sem, f1, f2, f3]) rfl ?_
          exact ParsePost.mk HP.out rfl (Pls.emp _) f0
        · clear f0 f1 f2 f3 e0 e1 y0 y1
          obtain ⟨x, hf, hx, hbl, hheld⟩ := HT.out rfl
          obtain ⟨vs, hvs, -⟩ := hheld.now
          simp only [Value.agg.injEq, Array.mk.injEq, List.cons.injEq, Value.int.injEq, true_and, and_true] at hvs
          obtain ⟨rfl, rfl, rfl⟩ := hvs
          have hh : Held w1.heap.size w2.heap.size w2 (fun W => Bts W (.slice a n c) x.bytes) := hheld.mp fun W hW => by
            obtain ⟨vs, e, hb⟩ := hW
            simp only [Value.agg.injEq, Array.mk.injEq, List.cons.injEq, Value.int.injEq, true_and, and_true] at e
            exact e ▸ hb
          have G2 := Lib.hid (show GoS s (at_ + o + 1) ((us ++ [(x, Value.slice a n c)]).map (·.1)) by rw [List.map_append]; exact G.out.step ho hf hx)
          have hol := first_lt ho
          have hul := S.out.len
          have l4 : Below w3.heap.size w3 (w3.alloc (.cells #[.int .i64 x.kind, .int .i64 x.n, .slice a n c] 34)) := (Below.refl _ w3).alloc (Nat.le_refl _) _
          have R4 := Blk.new w3 #[.int .i64 x.kind, .int .i64 x.n, .slice a n c] 34
          obtain ⟨v', W', hrun, hS⟩ := S2.out.push (by omega) (by omega) hh HB2.out (L3.out.trans (l4.mono L3.out.size)) w3.heap.size (fun j q hj => by
            rw [Nat.zero_add]
            refine (R4.cell j).trans ?_
            simpa using hj) rfl
          have HS := Lib.hid hS
          have sc := hS.scn.cell 1
          simp only [List.getElem?_toArray, List.getElem?_cons_zero, List.getElem?_cons_succ] at sc
          have HSC := Lib.hid sc
          clear hh hheld hx hf R4 l4 hS sc ho
          rw [hvo] at hrun
          generalize hgx : x.kind = kx at *
          generalize hgn : x.n = nx at *
          go_wp2_with (refine wpList_append_run (by rfl) _ _ _ _ (by rfl) _ _ _ _ (by rfl) (by rfl) hrun ?_)
          go_roundw
          case rel => exact ⟨at_ + o + 1, _, HS, G2⟩
          case measure =>
            rw [HSC.out, S.out.scn.cell 1]
            simp [intOf]; omega
    · have hlt2 : decide ((at_ : Int) < (s.size : Int)) = false := by simp; omega
      have hlt3 : decide (at_ < s.size) = false := by simp; omega
      obtain rfl : at_ = s.size := by omega
      have hfin := G.out.fin
      rw [List.length_map] at hfin
      have e0 : wr.cell? ⟨b, 0, none⟩ = _ := S.out.res.cell 0
      have e1 : wr.cell? ⟨b, 1, none⟩ = _ := S.out.res.cell 1
      simp only [List.getElem?_toArray, List.getElem?_cons_zero, List.getElem?_cons_succ] at e0 e1
      have y0 := S.out.res.free 0
      have y1 := S.out.res.free 1
      by_cases hbig : 4096 < us.length
      · have t1 : decide ((4096 : Int) < (us.length : Int)) = true := by simp; omega
        have t2 : decide (4096 < us.length) = true := by simp; omega
        rw [if_pos hbig] at hfin
        have HP := Lib.hid hfin
        obtain ⟨f0, f1, f2, f3, -⟩ := S.out.fin (.int .i64 3) (.int .i64 0)
        clear hfin
        subst hvo
        go_wp2
        refine bodyPost_ret (v := .tuple #[.slice none 0 0, .agg #[.int .i64 3, .int .i64 0]]) (by simp [results, Tryd.results7, go_sem, f1, f2, f3]) rfl ?_
        exact ParsePost.mk HP.out rfl (Pls.emp _) f0
      · have t1 : decide ((4096 : Int) < (us.length : Int)) = false := by simp; omega
        have t2 : decide (4096 < us.length) = false := by simp; omega
        rw [if_neg hbig] at hfin
        have HP := Lib.hid hfin
        obtain ⟨f0, f1, f2, f3, f4⟩ := S.out.fin (.int .i64 0) (.int .i64 0)
        have F4 := Lib.hid f4
        clear hfin f4
        subst hvo
        go_wp2
        refine bodyPost_ret (v := .tuple #[.slice ao us.length co, .agg #[.int .i64 0, .int .i64 0]]) (by simp [results, Tryd.results7, go_sem, f1, f2, f3]) rfl ?_
        exact ParsePost.mk HP.out rfl F4.out f0
end Go.Proofs.YtbjlnllbcgghlaaDoor
