/- Contract of the reference's Words. (Printed by gen_words.py from the text of the stack's own.) -/
import Derived.Test.YtmnadlgglmhfhaaRef3
namespace Go.Proofs.Ytmnadlgglmhfhaa
open Go.RowKit

set_option maxRecDepth 100000 in
set_option maxHeartbeats 4000000 in
theorem rwords_any (b B lim : Nat) (us : List Row) (vl : Value) (w : World) (h : RInv w b B lim us vl) :
    Calls Try.prog 38 #[.pointer (some ⟨b, 0, none⟩)] w fun e w' => ∃ v', e = .returned v' ∧ WOwn w' w.heap.size v' (wordsAll us) ∧ Below w.heap.size w w' := by
  obtain ⟨i0, hi, hz0, hz1, hz2⟩ := info_parts infoW
  have htk := h.tk
  have hlm := h.lm
  have hS := h.blk
  have H := Lib.hid h
  obtain ⟨pv, cv, rfl⟩ := own_shape h.row
  have hbs := h.sz
  have hus := len_le_taken us
  clear h
  obtain ⟨N, hN⟩ : ∃ n, us.length = n := ⟨_, rfl⟩
  have HN := Lib.hid hN
  rw [hN] at hus hS H
  clear hN
  go_enter Try.func38, Try.ntmps38
  go_wp2
  go_loopw [3, 4] (fun vo i wr => ∃ (k : Nat) (po : Option Addr) (co : Nat), i = .int .i64 k ∧ k ≤ N ∧ vo = .slice po (wordsAll (us.take k)).length co ∧ WOwn wr w.heap.size vo (wordsAll (us.take k)) ∧ Below w.heap.size w wr) (fun _ i _ => N - (intOf i).toNat)
  case atStart => exact ⟨0, none, 0, rfl, Nat.zero_le _, rfl, World.ownsRow_nil _ _ _ _, Below.refl _ _⟩
  case round =>
    obtain ⟨k, po, co, rfl, hk, rfl, ho, hb⟩ := hrel
    have klen := rlen_any b B lim us _ wr (H.out.below hb)
    rw [HN.out] at klen
    have KL := Lib.hid klen
    clear klen
    by_cases hlt : k < N
    · have hr := own_on H.out.row hb (own_lt H.out.row)
      rw [← HN.out] at hr
      obtain ⟨g, rfl, hg, hc⟩ := own_row_cells hr k (by rw [HN.out]; exact hlt)
      have hwr := H.out.wrd (us[k]'(by rw [HN.out]; exact hlt)) (List.getElem_mem _)
      have htake := take_succ (us := us) (k := k) (by rw [HN.out]; exact hlt)
      have hlen := wordsAll_take us (k + 1)
      obtain ⟨u, hu⟩ : ∃ u, us[k]'(by rw [HN.out]; exact hlt) = u := ⟨_, rfl⟩
      rw [hu] at hc hwr htake
      rw [htake, wordsAll_append, wordsAll_one, List.length_append, List.length_append] at hlen
      have Ht := Lib.hid htake
      obtain ⟨f, uw, ud⟩ := u
      dsimp only at hwr hlen
      have nw := own_nil_or hwr.1
      have nd := own_nil_or hwr.2
      have A1 := own_on hwr.1 hb (own_lt hwr.1)
      have A2 := own_on hwr.2 hb (own_lt hwr.2)
      obtain ⟨aw, cw, rfl⟩ := own_shape hwr.1
      obtain ⟨ad, cd, rfl⟩ := own_shape hwr.2
      have Hc := Lib.hid hc
      have hglt : g < w.heap.size := own_lt H.out.row g rfl
      have hblt := hS.lt
      have lw2 := own_lt hwr.2
      clear hc hu htake hwr
      have hltI : (k : Int) < (N : Int) := by omega
      obtain ⟨ws0, hws0⟩ : ∃ l, wordsAll (us.take k) = l := ⟨_, rfl⟩
      rw [hws0] at ho hlen ⊢
      have Hws := Lib.hid hws0
      clear hws0
      go_upto_region 5 with (go_at_call 34; with_reducible refine KL.out.mono ?_; rintro e W0 ⟨rfl, hb1⟩; have S1 := hS.below (hb.trans (hb1.mono hb.size)) hS.lt; have s1 := S1.cell; have c1 := fun i c hi => (hb1.cell (p := ⟨g, k * 6 + i, none⟩) hg).trans (Hc.out i c hi); have r4 := c1 4 _ rfl; have r5 := c1 5 _ rfl; clear c1; have B0 := hb.trans (hb1.mono hb.size))
      have O0 : WOwn W0.drew w.heap.size (.slice po ws0.length co) ws0 := own_on ho hb1.drew (own_lt ho)
      have F1 : WOwn W0.drew B (.slice aw f.ws.length cw) f.ws := own_on A1 hb1.drew (own_lt A1)
      have F2 : WOwn W0.drew B (.slice ad f.ds.length cd) f.ds := own_on A2 hb1.drew (own_lt A2)
      have l0 := own_lt ho
      have l00 := own_from ho
      have hlow := hb.size
      have R5 := Lib.hid r5
      clear ho A1 A2
      go_region_law (first | (refine step_append_words (by rfl) _ _ 30 (by rfl) i0 Try.underlying30 hi hz0 hz1 hz2 w.heap.size (.slice po ws0.length co) ws0 (by rfl) O0 (by have := B0.size; simpa using this) (.slice aw f.ws.length cw) (by rfl) f.ws F1.at nw (by omega) _ rfl ?_; intro p1 c1 w1 o1 g1 at1; have G1 := off_of_grown g1; have P1 := G1.blk S1.drew (fun e => by have := l00 _ e.symm; omega); have p1' := P1.cell; have r5' := (World.cell?_of_block (w := W0.drew) (a := ⟨g, k * 6 + 5, none⟩) (G1.block g (by have := B0.size; simp; omega) (fun e => by have := l00 _ e.symm; omega))).trans R5.out; have F3 : WOwn w1 B (.slice ad f.ds.length cd) f.ds := G1.own F2 (fun g hg e => by have := lw2 g hg; have := l00 g e.symm; omega); have o1' : WOwn w1 w.heap.size (.slice p1 (ws0.length + f.ws.length) c1) (ws0 ++ f.ws) := by (rw [← List.length_append]; exact o1)) | (refine step_append_words (by rfl) _ _ 30 (by rfl) i0 Try.underlying30 hi hz0 hz1 hz2 w.heap.size (.slice p1 (ws0.length + f.ws.length) c1) (ws0 ++ f.ws) (by rfl) o1' (by have := B0.size; have := G1.size; simp at this; omega) (.slice ad f.ds.length cd) (by rfl) f.ds F3.at nd (by rw [List.length_append]; omega) _ rfl ?_; intro p2 c2 w2 o2 g2 at2; have G2 := off_of_grown g2))
      all_goals
        go_wp2
        go_roundw
        case rel =>
          refine ⟨k + 1, p2, c2, by go_num, by omega, ?_, ?_, ?_⟩
          · rw [Ht.out, wordsAll_append, wordsAll_one, Hws.out, ← List.append_assoc]; simp only [List.length_append, Nat.add_assoc]
          · rw [Ht.out, wordsAll_append, wordsAll_one, Hws.out, ← List.append_assoc]; simpa only [List.length_append, Nat.add_assoc] using o2
          · have e1 := own_from o1'
            exact (B0.drew.trans (G1.below (by have := B0.size; simpa using this) (fun i e => l00 i e.symm))).trans (G2.below (by have := B0.size; have := G1.size; simp at this; omega) (fun i e => e1 i e.symm))
        case measure => simp [intOf]; omega
    · have hkN : k = N := by omega
      subst hkN
      have e0 : us.take k = us := by rw [← HN.out, List.take_length]
      rw [e0] at ho ⊢
      go_wp2_with (go_at_call 34; with_reducible refine KL.out.mono ?_; rintro e w1 ⟨rfl, hb1⟩)
      go_ret
      exact ⟨_, rfl, own_on ho hb1 (own_lt ho), hb.trans (hb1.mono hb.size)⟩

end Go.Proofs.Ytmnadlgglmhfhaa
