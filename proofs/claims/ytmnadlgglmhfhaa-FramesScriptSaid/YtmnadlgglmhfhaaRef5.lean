/- Contract of the reference's All. (Printed by gen_all.py from the text of the stack's own.) -/
import Derived.Test.YtmnadlgglmhfhaaRef3
namespace Go.Proofs.Ytmnadlgglmhfhaa
open Go.RowKit

set_option maxRecDepth 100000 in
set_option maxHeartbeats 4000000 in
theorem rall_any (b B lim : Nat) (us : List Row) (vl : Value) (w : World) (h : RInv w b B lim us vl) :
    Calls Try.prog 39 #[.pointer (some ⟨b, 0, none⟩)] w fun e w' => ∃ va us2, e = .returned va ∧ Frs w' w.heap.size va us2 ∧ us2.map Row.f = us.map Row.f ∧ Below w.heap.size w w' := by
  obtain ⟨i1, hj, hy0, hy1, hy2⟩ := info_parts infoF
  have htk := h.tk
  have hlm := h.lm
  have hS := h.blk
  have H := Lib.hid h
  obtain ⟨pv, cv, rfl⟩ := own_shape h.row
  have hbs := h.sz
  have hus := len_le_taken us
  have hlens : ∀ u ∈ us, u.f.ws.length ≤ 4194304 ∧ u.f.ds.length ≤ 4194304 := by
    intro u hu
    have := mem_takes hu
    unfold FrD.takes at this
    omega
  have HLs := Lib.hid hlens
  clear h hlens
  obtain ⟨N, hN⟩ : ∃ n, us.length = n := ⟨_, rfl⟩
  have HN := Lib.hid hN
  rw [hN] at hus hS H
  clear hN
  go_enter Try.func39, Try.ntmps39
  go_wp2
  go_loopw [3, 4] (fun vo i wr => ∃ (k : Nat) (us2 : List Row), i = .int .i64 k ∧ k ≤ N ∧ us2.map Row.f = (us.take k).map Row.f ∧ Frs wr w.heap.size vo us2 ∧ Below w.heap.size w wr) (fun _ i _ => N - (intOf i).toNat)
  case atStart => exact ⟨0, [], rfl, Nat.zero_le _, rfl, ⟨World.ownsRow_nil _ _ _ _, fun u hu => by simp at hu⟩, Below.refl _ _⟩
  case round =>
    obtain ⟨k, us2, rfl, hk, hsm, fs, hb⟩ := hrel
    have klen := rlen_any b B lim us _ wr (H.out.below hb)
    rw [HN.out] at klen
    have KL := Lib.hid klen
    clear klen
    by_cases hlt : k < N
    · have hkl : k < us.length := by rw [HN.out]; exact hlt
      have hr := own_on H.out.row hb (own_lt H.out.row)
      rw [← HN.out] at hr
      obtain ⟨g, rfl, hg, hc⟩ := own_row_cells hr k hkl
      have hwr := H.out.wrd us[k] (List.getElem_mem _)
      have hls := HLs.out us[k] (List.getElem_mem _)
      have htake := take_succ hkl
      obtain ⟨u, hu⟩ : ∃ u, us[k] = u := ⟨_, rfl⟩
      rw [hu] at hc hwr htake hls
      have Ht := Lib.hid htake
      have hl2 : us2.length = k := by
        have := congrArg List.length hsm
        simp at this
        omega
      obtain ⟨f, uw, ud⟩ := u
      dsimp only at hwr hls
      have A1 := own_on hwr.1 hb (own_lt hwr.1)
      have A2 := own_on hwr.2 hb (own_lt hwr.2)
      obtain ⟨aw, cw, rfl⟩ := own_shape hwr.1
      obtain ⟨ad, cd, rfl⟩ := own_shape hwr.2
      have Hc := Lib.hid hc
      clear hc hu htake hwr
      have hltI : (k : Int) < (N : Int) := by omega
      have Hsm := Lib.hid hsm
      clear hsm
      have kow := fun W (hW : Below wr.heap.size wr W) => rown_any f (.slice aw f.ws.length cw) (.slice ad f.ds.length cd) W ((WOwn.at A1).below hW (Nat.le_refl _)) ((WOwn.at A2).below hW (Nat.le_refl _)) (own_nil_or A1) (own_nil_or A2) (by omega) (by omega)
      have KO := Lib.hid kow
      clear A1 A2 kow
      go_wp2_with (first | (go_at_call 34; with_reducible refine KL.out.mono ?_; rintro e w1 ⟨rfl, hb1⟩; have S1 := hS.below (hb.trans (hb1.mono hb.size)) hS.lt; have s1 := S1.cell; have c1 := fun i c hi => (hb1.cell (p := ⟨g, k * 6 + i, none⟩) hg).trans (Hc.out i c hi); have r0 := c1 0 _ rfl; have r1 := c1 1 _ rfl; have r2 := c1 2 _ rfl; have r3 := c1 3 _ rfl; have r4 := c1 4 _ rfl; have r5 := c1 5 _ rfl; rw [Nat.add_zero] at r0; clear c1; have B0 := hb.trans (hb1.mono hb.size); have fs0 := fs.below hb1) | (go_at_call 44; with_reducible refine (KO.out w1 hb1).mono ?_; rintro e w4 ⟨v1, v2, m, rfl, o1, o2, m1, m2, m3, hb4⟩; obtain ⟨p1, x1, rfl⟩ := own_shape o1; obtain ⟨p2, x2, rfl⟩ := own_shape o2; have fs4 := fs0.below hb4; have B4 := B0.trans (hb4.mono B0.size)) | (at_builtin; refine wpList_append_lies _ rfl _ _ 29 rfl w.heap.size 32 i1 _ 6 88 Try.underlying29 hj hy0 hy1 hy2 rfl (by decide) u3 us2.length (flatF us2) rfl (fs4.own.alloc _) ⟨w4.heap.size, 0, none⟩ 1 1 (Row.cells ⟨f, .slice p1 f.ws.length x1, .slice p2 f.ds.length x2⟩) rfl rfl (frame_news ⟨f, .slice p1 f.ws.length x1, .slice p2 f.ds.length x2⟩ w4) (by simp [Row.cells, Value.oneCell']) (by decide) (by unfold maxLen; omega) (by omega) (by have := B4.size; simp; omega) _ rfl ?_; intro g7 c7 w5 hown hgrow hat hlt5))
      go_roundw
      case rel =>
        have G5 := off_of_grown hgrow
        have hs0 := B0.size
        have hs4 := hb4.size
        have q1 : WOwn (w4.alloc (.cells #[.int .i64 f.k, .int .i64 f.o, .int .i64 f.n, .string f.s, .slice p1 f.ws.length x1, .slice p2 f.ds.length x2] 32)) w.heap.size (.slice p1 f.ws.length x1) f.ws := own_low (o1.alloc _) hs0
        have q2 : WOwn (w4.alloc (.cells #[.int .i64 f.k, .int .i64 f.o, .int .i64 f.n, .string f.s, .slice p1 f.ws.length x1, .slice p2 f.ds.length x2] 32)) w.heap.size (.slice p2 f.ds.length x2) f.ds := own_low (o2.alloc _) (by omega)
        have fr4 := fs4.own.alloc (.cells #[.int .i64 f.k, .int .i64 f.o, .int .i64 f.n, .string f.s, .slice p1 f.ws.length x1, .slice p2 f.ds.length x2] 32)
        refine ⟨k + 1, us2 ++ [⟨f, .slice p1 f.ws.length x1, .slice p2 f.ds.length x2⟩], by go_num, by omega, ?_, ⟨?_, ?_⟩, ?_⟩
        · rw [Ht.out]; simp [Hsm.out]
        · rw [List.length_append, flatF_append, flatF_one]; rw [hl2] at hown ⊢; exact hown
        · intro u hu
          rcases List.mem_append.1 hu with hu | hu
          · have q3 := (fs4.wrd u hu).1.alloc (.cells #[.int .i64 f.k, .int .i64 f.o, .int .i64 f.n, .string f.s, .slice p1 f.ws.length x1, .slice p2 f.ds.length x2] 32)
            have q4 := (fs4.wrd u hu).2.alloc (.cells #[.int .i64 f.k, .int .i64 f.o, .int .i64 f.n, .string f.s, .slice p1 f.ws.length x1, .slice p2 f.ds.length x2] 32)
            exact ⟨G5.own q3 (fun g hg e => own_apart q3 fr4 (by decide) g hg e.symm), G5.own q4 (fun g hg e => own_apart q4 fr4 (by decide) g hg e.symm)⟩
          · rw [List.mem_singleton] at hu
            subst hu
            exact ⟨G5.own q1 (fun g hg e => own_apart q1 fr4 (by decide) g hg e.symm), G5.own q2 (fun g hg e => own_apart q2 fr4 (by decide) g hg e.symm)⟩
        · have e1 := own_from fr4
          exact (B4.alloc B4.size _).trans (G5.below (by have := B4.size; simp; omega) (fun i e => e1 i e.symm))
      case measure => simp [intOf]; omega
    · have hkN : k = N := by omega
      subst hkN
      have e0 : us.take k = us := by rw [← HN.out, List.take_length]
      rw [e0] at hsm
      have Hsm := Lib.hid hsm
      clear hsm
      go_wp2_with (go_at_call 34; with_reducible refine KL.out.mono ?_; rintro e w1 ⟨rfl, hb1⟩)
      go_ret
      exact ⟨_, us2, rfl, fs.below hb1, Hsm.out, hb.trans (hb1.mono hb.size)⟩

end Go.Proofs.Ytmnadlgglmhfhaa
