/- Contract of (*frames.Stack).Words. -/
import Derived.Test.YtmnadlgglmhfhaaBackA
namespace Go.Proofs.Ytmnadlgglmhfhaa
open Go.RowKit
set_option linter.unusedSimpArgs false

def wordsAll (us : List Row) : List Wd := us.flatMap fun u => u.f.ws ++ u.f.ds
theorem wordsAll_append (a b : List Row) : wordsAll (a ++ b) = wordsAll a ++ wordsAll b := by simp [wordsAll]
theorem wordsAll_one (u : Row) : wordsAll [u] = u.f.ws ++ u.f.ds := by simp [wordsAll]
theorem wordsAll_len (us : List Row) : (wordsAll us).length ≤ takenOf us := by
  induction us with
  | nil => simp [wordsAll]
  | cons x xs ih =>
    simp only [wordsAll, List.flatMap_cons, List.length_append, takenOf, List.map_cons, List.sum_cons, FrD.takes] at ih ⊢
    omega
theorem take_succ {us : List Row} {k : Nat} (h : k < us.length) : us.take (k + 1) = us.take k ++ [us[k]] := List.take_succ_eq_append_getElem h
theorem wordsAll_take (us : List Row) (k : Nat) : (wordsAll (us.take k)).length ≤ takenOf us := by
  have := wordsAll_len us
  have h : wordsAll us = wordsAll (us.take k) ++ wordsAll (us.drop k) := by rw [← wordsAll_append, List.take_append_drop]
  rw [h, List.length_append] at this
  omega

theorem own_nil_or {W : World} {base : Nat} {e : TypeId} {size : Nat} {v : Value} {n : Nat} {xs : List Value} (h : W.ownsRow base e size v n xs) : v = .slice none 0 0 ∨ ∃ p n c, v = .slice (some p) n c := by
  rcases h.2 with ⟨h1, _⟩ | ⟨g, cap, cur, h1, _⟩
  · exact .inl h1
  · exact .inr ⟨_, _, _, h1⟩

/-- append of words that can be read to words of one's own, at a step of a region that draws its order. -/
theorem step_append_words {w : World} {ops : Array Oper} {o : Oper} {a : Act} {K : Act → World → Prop} {Q : Exit → Act → World → Prop} {E : Prop} (hgd : o.guard = none) (s x : Operand) (t : TypeId)
    (ho : o.op = .call { callee := .builtin .append, args := #[s, x], argTypes := #[t, t] }) (i : TypeInfo) (ht : Try.prog.underlying t = some (.slice 38)) (hi : Try.prog.info? 38 = some i)
    (hz : i.zero = some (.agg #[.int .i64 0, .int .i64 0])) (hsize : i.size = 2) (hby : i.bytes = 16) (base : Nat) (v1 : Value) (ws1 : List Wd) (hs : a.eval s = v1) (hown : WOwn w base v1 ws1)
    (hbase : base ≤ w.heap.size) (v : Value) (hx : a.eval x = v) (ws : List Wd) (hw : WAt w v ws) (hv : v = .slice none 0 0 ∨ ∃ p n c, v = .slice (some p) n c) (hl : ws1.length + ws.length ≤ 1000000000000) (H : Nat) (hH : w.heap.size = H)
    (h : ∀ p c w', WOwn w' base (.slice p (ws1 ++ ws).length c) (ws1 ++ ws) → w.grownBy w' v1.ownBlock → ((Value.slice p (ws1 ++ ws).length c).ownBlock = v1.ownBlock ∨ (Value.slice p (ws1 ++ ws).length c).ownBlock = some H) → K (a.put o.dst (.slice p (ws1 ++ ws).length c)) w') :
    if Region.wanted o (yielded ops a.tmps) = true then Oper.wp Try.prog o a w K Q else E := by
  have hwt : Region.wanted o (yielded ops a.tmps) = true := by simp [Region.wanted, hgd]
  rw [if_pos hwt]
  rcases hv with rfl | ⟨p, n, c, rfl⟩
  · obtain ⟨_, _, e, _⟩ := hw
    have hw0 : ws = [] := by
      simp only [Value.slice.injEq] at e
      exact List.length_eq_zero_iff.1 e.2.1.symm
    subst hw0
    obtain ⟨p, c, rfl⟩ := own_shape hown
    have hrun := run_append_owned_none (P := Try.prog) (w := w) base t o.type 38 i 2 ht hi _ ws1.length (flat ws1) hown
    unfold Oper.wp execOp
    simp only [ho, resolve, invoke, builtin, Sem.run_bind, Sem.run_pure, Result.andThen_ok, List.map_toArray, List.map_cons, List.map_nil, hs, hx, hrun]
    simp only [List.append_nil] at h
    exact h p c w hown (World.grownBy.refl _ _) (.inl rfl)
  · obtain ⟨a', cap, e, hc⟩ := hw
    simp only [Value.slice.injEq] at e
    obtain ⟨rfl, rfl, rfl⟩ := e
    obtain ⟨v', w', hr, h2, h3, _, h5⟩ := run_append_own_at (P := Try.prog) w base t o.type 38 i _ 2 16 ht hi hz hsize hby rfl (by decide) v1 ws1.length (flat ws1) hown p ws.length c (flat ws) (flat_len ws) (fun j u hj => by
      have hlt : 0 < ws.length := by
        rcases ws with _ | ⟨x, xs⟩
        · simp [flat] at hj
        · simp
      obtain ⟨b, o, hh, h2, h3⟩ := hc hlt
      cases hh
      have := h3 j u hj
      cases j with
      | zero => simpa [Addr.add] using this
      | succ j => simpa [Addr.add] using this) (flat_one ws) (by unfold maxLen; omega) (by omega) hbase
    unfold Oper.wp execOp
    simp only [ho, resolve, invoke, builtin, Sem.run_bind, Sem.run_pure, Result.andThen_ok, List.map_toArray, List.map_cons, List.map_nil, hs, hx, hr]
    have h1' : WOwn w' base v' (ws1 ++ ws) := by
      show w'.ownsRow _ _ _ _ _ _
      rw [flat_append, List.length_append]
      exact h2
    obtain ⟨p', c', rfl⟩ := own_shape h1'
    exact h p' c' w' h1' h3 (by rw [← hH]; exact h5)

set_option maxRecDepth 100000 in
set_option maxHeartbeats 4000000 in
theorem words_any (b B lim : Nat) (us : List Row) (vl : Value) (w : World) (h : SInv w b B lim us vl) :
    Calls Try.prog 18 #[.pointer (some ⟨b, 0, none⟩)] w fun e w' => ∃ v', e = .returned v' ∧ WOwn w' w.heap.size v' (wordsAll us) ∧ Below w.heap.size w w' := by
  obtain ⟨i0, hi, hz0, hz1, hz2⟩ := info_parts infoW
  have htk := h.tk
  have hlm := h.lm
  have hS := h.blk
  have H := Lib.hid h
  obtain ⟨pv, cv, rfl⟩ := own_shape h.row
  have hbs := h.sz
  have hus := len_le_taken us
  clear h
  obtain ⟨N, hN⟩ : ∃ n, us.length = n := ⟨_, rfl⟩
  have HN := Lib.hid hN
  rw [hN] at hus hS H
  clear hN
  have s0 := hS.cell
  go_enter Try.func18, Try.ntmps18
  go_wp2_with (go_at_call 40; with_reducible refine (none_any b _ _ _ true _ hS).mono ?_; rintro e w1 ⟨rfl, hb1⟩; have S1 := hS.below hb1 hS.lt; have s1 := S1.cell)
  go_loopw [3, 13] (fun vo i wr => ∃ (k : Nat) (po : Option Addr) (co : Nat), i = .int .i64 k ∧ k ≤ N ∧ vo = .slice po (wordsAll (us.take k)).length co ∧ WOwn wr w.heap.size vo (wordsAll (us.take k)) ∧ Below w.heap.size w wr) (fun _ i _ => N - (intOf i).toNat)
  case atStart => exact ⟨0, none, 0, rfl, Nat.zero_le _, rfl, World.ownsRow_nil _ _ _ _, hb1⟩
  case round =>
    obtain ⟨k, po, co, rfl, hk, rfl, ho, hb⟩ := hrel
    by_cases hlt : k < N
    · have hr := own_on H.out.row hb (own_lt H.out.row)
      rw [← HN.out] at hr
      obtain ⟨g, rfl, hg, hc⟩ := own_row_cells hr k (by rw [HN.out]; exact hlt)
      have hwr := H.out.wrd (us[k]'(by rw [HN.out]; exact hlt)) (List.getElem_mem _)
      have htake := take_succ (us := us) (k := k) (by rw [HN.out]; exact hlt)
      have hlen := wordsAll_take us (k + 1)
      obtain ⟨u, hu⟩ : ∃ u, us[k]'(by rw [HN.out]; exact hlt) = u := ⟨_, rfl⟩
      rw [hu] at hc hwr htake
      rw [htake, wordsAll_append, wordsAll_one, List.length_append, List.length_append] at hlen
      have Ht := Lib.hid htake
      obtain ⟨f, uw, ud⟩ := u
      dsimp only at hwr hlen
      have nw := own_nil_or hwr.1
      have nd := own_nil_or hwr.2
      have A1 := own_on hwr.1 hb (own_lt hwr.1)
      have A2 := own_on hwr.2 hb (own_lt hwr.2)
      obtain ⟨aw, cw, rfl⟩ := own_shape hwr.1
      obtain ⟨ad, cd, rfl⟩ := own_shape hwr.2
      have r0 := hc 0 _ rfl
      have r1 := hc 1 _ rfl
      have r2 := hc 2 _ rfl
      have r3 := hc 3 _ rfl
      have r4 := hc 4 _ rfl
      have r5 := hc 5 _ rfl
      rw [Nat.add_zero] at r0
      have lw2 := own_lt hwr.2
      clear hc hu htake hwr
      have hltI : (k : Int) < (N : Int) := by omega
      obtain ⟨ws0, hws0⟩ : ∃ l, wordsAll (us.take k) = l := ⟨_, rfl⟩
      rw [hws0] at ho hlen ⊢
      have Hws := Lib.hid hws0
      clear hws0
      go_upto_region 7 with fail
      generalize hW0 : wr.alloc (Obj.cells #[.int .i64 f.k, .int .i64 f.o, .int .i64 f.n, .string f.s, .slice aw f.ws.length cw, .slice ad f.ds.length cd] 32) = W0
      have P0 : Blk W0 wr.heap.size #[.int .i64 f.k, .int .i64 f.o, .int .i64 f.n, .string f.s, .slice aw f.ws.length cw, .slice ad f.ds.length cd] := by rw [← hW0]; exact Blk.new wr _ _
      have k0 : Below wr.heap.size wr W0 := by rw [← hW0]; ((repeat (first | exact Below.refl _ _ | (refine Below.alloc ?_ (by first | (simp [World.setCell]; done) | (simp [World.setCell]; omega)) _) | (refine Below.setCell ?_ (by first | (simp [World.setCell]; done) | (simp [World.setCell]; omega)) _) | refine Below.drew ?_)))
      have B0 := hb.trans (k0.mono hb.size)
      have O0 : WOwn W0.drew w.heap.size (.slice po ws0.length co) ws0 := own_on ho k0.drew (own_lt ho)
      have F1 : WOwn W0.drew B (.slice aw f.ws.length cw) f.ws := own_on A1 k0.drew (own_lt A1)
      have F2 : WOwn W0.drew B (.slice ad f.ds.length cd) f.ds := own_on A2 k0.drew (own_lt A2)
      have l2 := own_lt A2
      have l0 := own_lt ho
      have l00 := own_from ho
      have ht0 := P0.lt
      have hlow := hb.size
      clear hW0 r0 r1 r2 r3 r4 r5 ho A1 A2
      have p0 := P0.cell
      go_region_law (first | (refine step_append_words (by rfl) _ _ 30 (by rfl) i0 Try.underlying30 hi hz0 hz1 hz2 w.heap.size (.slice po ws0.length co) ws0 (by rfl) O0 (by have := B0.size; simpa using this) (.slice aw f.ws.length cw) (by rfl) f.ws F1.at nw (by omega) _ rfl ?_; intro p1 c1 w1 o1 g1 at1; have G1 := off_of_grown g1; have P1 := G1.blk P0.drew (fun e => by have := l0 _ e.symm; omega); have p1' := P1.cell; have F3 : WOwn w1 B (.slice ad f.ds.length cd) f.ds := G1.own F2 (fun g hg e => by have := lw2 g hg; have := l00 g e.symm; omega); have o1' : WOwn w1 w.heap.size (.slice p1 (ws0.length + f.ws.length) c1) (ws0 ++ f.ws) := by (rw [← List.length_append]; exact o1)) | (refine step_append_words (by rfl) _ _ 30 (by rfl) i0 Try.underlying30 hi hz0 hz1 hz2 w.heap.size (.slice p1 (ws0.length + f.ws.length) c1) (ws0 ++ f.ws) (by rfl) o1' (by have := B0.size; have := G1.size; simp at this; omega) (.slice ad f.ds.length cd) (by rfl) f.ds F3.at nd (by rw [List.length_append]; omega) _ rfl ?_; intro p2 c2 w2 o2 g2 at2; have G2 := off_of_grown g2))
      all_goals
        go_wp2
        go_roundw
        case rel =>
          refine ⟨k + 1, p2, c2, by go_num, by omega, ?_, ?_, ?_⟩
          · rw [Ht.out, wordsAll_append, wordsAll_one, Hws.out, ← List.append_assoc]; simp only [List.length_append, Nat.add_assoc]
          · rw [Ht.out, wordsAll_append, wordsAll_one, Hws.out, ← List.append_assoc]; simpa only [List.length_append, Nat.add_assoc] using o2
          · have e1 := own_from o1'
            exact (B0.drew.trans (G1.below (by have := B0.size; simpa using this) (fun i e => l00 i e.symm))).trans (G2.below (by have := B0.size; have := G1.size; simp at this; omega) (fun i e => e1 i e.symm))
        case measure => simp [intOf]; omega
    · have hkN : k = N := by omega
      subst hkN
      have e0 : us.take k = us := by rw [← HN.out, List.take_length]
      rw [e0] at ho ⊢
      go_wp2
      go_ret
      exact ⟨_, rfl, ho, hb⟩

end Go.Proofs.Ytmnadlgglmhfhaa
