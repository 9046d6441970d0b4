/- Contracts of (*frames.Stack).All and thunkmillkit.SameFrames (at equal ones). -/
import Derived.Test.YtmnadlgglmhfhaaWords
namespace Go.Proofs.Ytmnadlgglmhfhaa
open Go.RowKit
set_option linter.unusedSimpArgs false

/-- Frames of the call's own. -/
structure Frs (W : World) (base : Nat) (va : Value) (us : List Row) : Prop where
  own : W.ownsRow base 32 6 va us.length (flatF us)
  wrd : ∀ u ∈ us, WOwn W base u.vw u.f.ws ∧ WOwn W base u.vd u.f.ds
theorem Frs.off {S : Nat → Prop} {W W' : World} {base : Nat} {va : Value} {us : List Row} (h : Frs W base va us) (hb : Off S W W') (hS : ∀ k, S k → k < base) : Frs W' base va us :=
  ⟨hb.own h.own (fun g hg hs => by have := own_from h.own g hg; have := hS g hs; omega), fun u hu =>
    ⟨hb.own (h.wrd u hu).1 (fun g hg hs => by have := own_from (h.wrd u hu).1 g hg; have := hS g hs; omega), hb.own (h.wrd u hu).2 (fun g hg hs => by have := own_from (h.wrd u hu).2 g hg; have := hS g hs; omega)⟩⟩
theorem Frs.below {W W' : World} {base : Nat} {va : Value} {us : List Row} (h : Frs W base va us) (hb : Below W.heap.size W W') : Frs W' base va us :=
  ⟨own_on h.own hb (own_lt h.own), fun u hu => ⟨own_on (h.wrd u hu).1 hb (own_lt (h.wrd u hu).1), own_on (h.wrd u hu).2 hb (own_lt (h.wrd u hu).2)⟩⟩

set_option maxRecDepth 100000 in
set_option maxHeartbeats 4000000 in
theorem all_any (b B lim : Nat) (us : List Row) (vl : Value) (w : World) (h : SInv w b B lim us vl) :
    Calls Try.prog 21 #[.pointer (some ⟨b, 0, none⟩)] w fun e w' => ∃ va us2, e = .returned va ∧ Frs w' w.heap.size va us2 ∧ us2.map Row.f = us.map Row.f ∧ Below w.heap.size w w' := by
  obtain ⟨i1, hj, hy0, hy1, hy2⟩ := info_parts infoF
  have htk := h.tk
  have hlm := h.lm
  have hS := h.blk
  have H := Lib.hid h
  obtain ⟨pv, cv, rfl⟩ := own_shape h.row
  have hbs := h.sz
  have hus := len_le_taken us
  have hlens : ∀ u ∈ us, u.f.ws.length ≤ 4194304 ∧ u.f.ds.length ≤ 4194304 := by
    intro u hu
    have := mem_takes hu
    unfold FrD.takes at this
    omega
  have HLs := Lib.hid hlens
  clear h hlens
  obtain ⟨N, hN⟩ : ∃ n, us.length = n := ⟨_, rfl⟩
  have HN := Lib.hid hN
  rw [hN] at hus hS H
  clear hN
  have s0 := hS.cell
  go_enter Try.func21, Try.ntmps21
  go_wp2_with (go_at_call 40; with_reducible refine (none_any b _ _ _ true _ hS).mono ?_; rintro e w1 ⟨rfl, hb1⟩; have S1 := hS.below hb1 hS.lt; have s1 := S1.cell)
  go_loopw [3, 13] (fun vo i wr => ∃ (k : Nat) (us2 : List Row), i = .int .i64 k ∧ k ≤ N ∧ us2.map Row.f = (us.take k).map Row.f ∧ Frs wr w.heap.size vo us2 ∧ Below w.heap.size w wr) (fun _ i _ => N - (intOf i).toNat)
  case atStart => exact ⟨0, [], rfl, Nat.zero_le _, rfl, ⟨World.ownsRow_nil _ _ _ _, fun u hu => by simp at hu⟩, hb1⟩
  case round =>
    obtain ⟨k, us2, rfl, hk, hsm, fs, hb⟩ := hrel
    by_cases hlt : k < N
    · have hkl : k < us.length := by rw [HN.out]; exact hlt
      have hr := own_on H.out.row hb (own_lt H.out.row)
      rw [← HN.out] at hr
      obtain ⟨g, rfl, hg, hc⟩ := own_row_cells hr k hkl
      have hwr := H.out.wrd us[k] (List.getElem_mem _)
      have hls := HLs.out us[k] (List.getElem_mem _)
      have htake := take_succ hkl
      obtain ⟨u, hu⟩ : ∃ u, us[k] = u := ⟨_, rfl⟩
      rw [hu] at hc hwr htake hls
      have Ht := Lib.hid htake
      have hl2 : us2.length = k := by
        have := congrArg List.length hsm
        simp at this
        omega
      obtain ⟨f, uw, ud⟩ := u
      dsimp only at hwr hls
      have A1 := own_on hwr.1 hb (own_lt hwr.1)
      have A2 := own_on hwr.2 hb (own_lt hwr.2)
      obtain ⟨aw, cw, rfl⟩ := own_shape hwr.1
      obtain ⟨ad, cd, rfl⟩ := own_shape hwr.2
      have r0 := hc 0 _ rfl
      have r1 := hc 1 _ rfl
      have r2 := hc 2 _ rfl
      have r3 := hc 3 _ rfl
      have r4 := hc 4 _ rfl
      have r5 := hc 5 _ rfl
      rw [Nat.add_zero] at r0
      clear hc hu htake hwr
      have hltI : (k : Int) < (N : Int) := by omega
      have Hsm := Lib.hid hsm
      clear hsm
      go_upto_region 7 with fail
      generalize hW0 : wr.alloc (Obj.cells #[.int .i64 f.k, .int .i64 f.o, .int .i64 f.n, .string f.s, .slice aw f.ws.length cw, .slice ad f.ds.length cd] 32) = W0
      have P0 : Blk W0 wr.heap.size #[.int .i64 f.k, .int .i64 f.o, .int .i64 f.n, .string f.s, .slice aw f.ws.length cw, .slice ad f.ds.length cd] := by rw [← hW0]; exact Blk.new wr _ _
      have k0 : Below wr.heap.size wr W0 := by rw [← hW0]; ((repeat (first | exact Below.refl _ _ | (refine Below.alloc ?_ (by first | (simp [World.setCell]; done) | (simp [World.setCell]; omega)) _) | (refine Below.setCell ?_ (by first | (simp [World.setCell]; done) | (simp [World.setCell]; omega)) _) | refine Below.drew ?_)))
      have B0 := hb.trans (k0.mono hb.size)
      have fs0 := fs.below k0
      have kow := own_any f.k f.o f.n f.s (.slice aw f.ws.length cw) (.slice ad f.ds.length cd) f.ws f.ds W0 (WOwn.at (own_on A1 k0 (own_lt A1))) (WOwn.at (own_on A2 k0 (own_lt A2))) (by omega) (by omega)
      have KO := Lib.hid kow
      clear hW0 r0 r1 r2 r3 r4 r5 A1 A2 kow
      have p0 := P0.cell
      go_wp2_with (first | (go_at_call 41; with_reducible refine KO.out.mono ?_; rintro e w4 ⟨v1, v2, m, rfl, o1, o2, m1, m2, m3, hb4⟩; obtain ⟨p1, x1, rfl⟩ := own_shape o1; obtain ⟨p2, x2, rfl⟩ := own_shape o2; have fs4 := fs0.below hb4; have B4 := B0.trans (hb4.mono B0.size)) | (at_builtin; refine wpList_append_lies _ rfl _ _ 29 rfl w.heap.size 32 i1 _ 6 88 Try.underlying29 hj hy0 hy1 hy2 rfl (by decide) u3 us2.length (flatF us2) rfl (fs4.own.alloc _) ⟨w4.heap.size, 0, none⟩ 1 1 (Row.cells ⟨f, .slice p1 f.ws.length x1, .slice p2 f.ds.length x2⟩) rfl rfl (frame_news ⟨f, .slice p1 f.ws.length x1, .slice p2 f.ds.length x2⟩ w4) (by simp [Row.cells, Value.oneCell']) (by decide) (by unfold maxLen; omega) (by omega) (by have := B4.size; simp; omega) _ rfl ?_; intro g7 c7 w5 hown hgrow hat hlt5))
      go_roundw
      case rel =>
        have G5 := off_of_grown hgrow
        have hs0 := B0.size
        have hs4 := hb4.size
        have q1 : WOwn (w4.alloc (.cells #[.int .i64 f.k, .int .i64 f.o, .int .i64 f.n, .string f.s, .slice p1 f.ws.length x1, .slice p2 f.ds.length x2] 32)) w.heap.size (.slice p1 f.ws.length x1) f.ws := own_low (o1.alloc _) hs0
        have q2 : WOwn (w4.alloc (.cells #[.int .i64 f.k, .int .i64 f.o, .int .i64 f.n, .string f.s, .slice p1 f.ws.length x1, .slice p2 f.ds.length x2] 32)) w.heap.size (.slice p2 f.ds.length x2) f.ds := own_low (o2.alloc _) (by omega)
        have fr4 := fs4.own.alloc (.cells #[.int .i64 f.k, .int .i64 f.o, .int .i64 f.n, .string f.s, .slice p1 f.ws.length x1, .slice p2 f.ds.length x2] 32)
        refine ⟨k + 1, us2 ++ [⟨f, .slice p1 f.ws.length x1, .slice p2 f.ds.length x2⟩], by go_num, by omega, ?_, ⟨?_, ?_⟩, ?_⟩
        · rw [Ht.out]; simp [Hsm.out]
        · rw [List.length_append, flatF_append, flatF_one]; rw [hl2] at hown ⊢; exact hown
        · intro u hu
          rcases List.mem_append.1 hu with hu | hu
          · have q3 := (fs4.wrd u hu).1.alloc (.cells #[.int .i64 f.k, .int .i64 f.o, .int .i64 f.n, .string f.s, .slice p1 f.ws.length x1, .slice p2 f.ds.length x2] 32)
            have q4 := (fs4.wrd u hu).2.alloc (.cells #[.int .i64 f.k, .int .i64 f.o, .int .i64 f.n, .string f.s, .slice p1 f.ws.length x1, .slice p2 f.ds.length x2] 32)
            exact ⟨G5.own q3 (fun g hg e => own_apart q3 fr4 (by decide) g hg e.symm), G5.own q4 (fun g hg e => own_apart q4 fr4 (by decide) g hg e.symm)⟩
          · rw [List.mem_singleton] at hu
            subst hu
            exact ⟨G5.own q1 (fun g hg e => own_apart q1 fr4 (by decide) g hg e.symm), G5.own q2 (fun g hg e => own_apart q2 fr4 (by decide) g hg e.symm)⟩
        · have e1 := own_from fr4
          exact (B4.alloc B4.size _).trans (G5.below (by have := B4.size; simp; omega) (fun i e => e1 i e.symm))
      case measure => simp [intOf]; omega
    · have hkN : k = N := by omega
      subst hkN
      have e0 : us.take k = us := by rw [← HN.out, List.take_length]
      rw [e0] at hsm
      have Hsm := Lib.hid hsm
      clear hsm
      go_wp2
      go_ret
      exact ⟨_, us2, rfl, fs, Hsm.out, hb⟩

set_option maxRecDepth 100000 in
set_option maxHeartbeats 4000000 in
theorem sameFrames_yes (base1 base2 : Nat) (va vb : Value) (us vs : List Row) (w : World) (h1 : Frs w base1 va us) (h2 : Frs w base2 vb vs) (hs : us.map Row.f = vs.map Row.f) (hl : takenOf us ≤ 4194304) :
    Calls Try.prog 23 #[va, vb] w fun e w' => e = .returned (.bool true) ∧ Below w.heap.size w w' := by
  obtain ⟨p1, c1, rfl⟩ := own_shape h1.own
  obtain ⟨p2, c2, rfl⟩ := own_shape h2.own
  have hll : us.length = vs.length := by simpa using congrArg List.length hs
  have hus := len_le_taken us
  have hlens : ∀ u ∈ us, u.f.ws.length ≤ 1000000000000 ∧ u.f.ds.length ≤ 1000000000000 := by
    intro u hu
    have := mem_takes hu
    unfold FrD.takes at this
    omega
  have HLs := Lib.hid hlens; have H1 := Lib.hid h1; have H2 := Lib.hid h2; have Hs := Lib.hid hs
  clear h1 h2 hlens hs
  obtain ⟨N, hN⟩ : ∃ n, us.length = n := ⟨_, rfl⟩
  have hM : vs.length = N := by omega
  have HN := Lib.hid hN; have HM := Lib.hid hM
  rw [hN] at hus H1 ⊢
  rw [hM] at H2 ⊢
  clear hN hM hll
  go_enter Try.func23, Try.ntmps23
  go_wp2
  go_loopw [5] (fun i wr => ∃ k : Nat, i = .int .i64 k ∧ k ≤ N ∧ Below w.heap.size w wr) (fun i _ => N - (intOf i).toNat)
  case atStart => exact ⟨0, rfl, Nat.zero_le _, Below.refl _ _⟩
  case round =>
    obtain ⟨k, rfl, hk, hb⟩ := hrel
    by_cases hlt : k < N
    · have hk1 : k < us.length := by rw [HN.out]; exact hlt
      have hk2 : k < vs.length := by rw [HM.out]; exact hlt
      have fa := H1.out.below hb
      have fb := H2.out.below hb
      have oa := fa.own
      have ob := fb.own
      rw [← HN.out] at oa
      rw [← HM.out] at ob
      obtain ⟨g1, rfl, hg1, hc1⟩ := own_row_cells oa k hk1
      obtain ⟨g2, rfl, hg2, hc2⟩ := own_row_cells ob k hk2
      have wa := fa.wrd us[k] (List.getElem_mem _)
      have wb := fb.wrd vs[k] (List.getElem_mem _)
      have hls := HLs.out us[k] (List.getElem_mem _)
      have he : us[k].f = vs[k].f := by
        have h1 : (us.map Row.f)[k]? = (vs.map Row.f)[k]? := by rw [Hs.out]
        simpa [hk1, hk2] using h1
      obtain ⟨u, hu⟩ : ∃ u, us[k] = u := ⟨_, rfl⟩
      obtain ⟨v, hv⟩ : ∃ v, vs[k] = v := ⟨_, rfl⟩
      rw [hu] at hc1 wa hls he
      rw [hv] at hc2 wb he
      obtain ⟨f, uw, ud⟩ := u
      obtain ⟨f', vw, vd⟩ := v
      dsimp only at he wa wb hls
      obtain rfl := he
      have A1 := fun W (hW : Below wr.heap.size wr W) => (WOwn.at wa.1).below hW (Nat.le_refl _)
      have A2 := fun W (hW : Below wr.heap.size wr W) => (WOwn.at wa.2).below hW (Nat.le_refl _)
      have A3 := fun W (hW : Below wr.heap.size wr W) => (WOwn.at wb.1).below hW (Nat.le_refl _)
      have A4 := fun W (hW : Below wr.heap.size wr W) => (WOwn.at wb.2).below hW (Nat.le_refl _)
      have HA1 := Lib.hid A1; have HA2 := Lib.hid A2; have HA3 := Lib.hid A3; have HA4 := Lib.hid A4
      obtain ⟨q1, x1, rfl⟩ := own_shape wa.1
      obtain ⟨q2, x2, rfl⟩ := own_shape wa.2
      obtain ⟨q3, x3, rfl⟩ := own_shape wb.1
      obtain ⟨q4, x4, rfl⟩ := own_shape wb.2
      have r0 := hc1 0 _ rfl
      have r1 := hc1 1 _ rfl
      have r2 := hc1 2 _ rfl
      have r3 := hc1 3 _ rfl
      have r4 := hc1 4 _ rfl
      have r5 := hc1 5 _ rfl
      rw [Nat.add_zero] at r0
      have t0 := hc2 0 _ rfl
      have t1 := hc2 1 _ rfl
      have t2 := hc2 2 _ rfl
      have t3 := hc2 3 _ rfl
      have t4 := hc2 4 _ rfl
      have t5 := hc2 5 _ rfl
      rw [Nat.add_zero] at t0
      have hltI : (k : Int) < (N : Int) := by omega
      clear hc1 hc2 hu hv wa wb A1 A2 A3 A4 fa fb oa ob
      go_upto_region 6 with fail
      go_region_with (go_at_call 16; with_reducible refine (sameFrame_yes f.k f.o f.n f.s _ _ _ _ f.ws f.ds wr.drew (HA1.out _ (Below.refl _ _).drew) (HA3.out _ (Below.refl _ _).drew) (HA2.out _ (Below.refl _ _).drew) (HA4.out _ (Below.refl _ _).drew) hls.1 hls.2).mono ?_; rintro e w5 ⟨rfl, hb5⟩; have q5 := below_of_drew hb5)
      all_goals
        go_wp2
        go_roundw
        case rel => exact ⟨k + 1, by go_num, by omega, hb.trans (q5.mono hb.size)⟩
        case measure => simp [intOf]; omega
    · go_wp2
      go_ret
      exact ⟨rfl, hb⟩

end Go.Proofs.Ytmnadlgglmhfhaa
