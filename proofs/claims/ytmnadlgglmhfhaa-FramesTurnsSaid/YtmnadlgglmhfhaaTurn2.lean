/- Contracts of (*frames.Stack).Turn. -/
import Derived.Test.YtmnadlgglmhfhaaTurn
namespace Go.Proofs.Ytmnadlgglmhfhaa
open Go.RowKit
set_option linter.unusedSimpArgs false

theorem WAt.off {S : Nat → Prop} {W W' : World} {v : Value} {ws : List Wd} (h : WAt W v ws) (hb : Off S W W') (hn : ∀ g, v.ownBlock = some g → ¬ S g) : WAt W' v ws := by
  obtain ⟨a, cap, rfl, hc⟩ := h
  refine ⟨a, cap, rfl, fun hl => ?_⟩
  obtain ⟨b, o, rfl, h2, h3⟩ := hc hl
  have hbk := hb.block b h2 (hn b rfl)
  exact ⟨b, o, rfl, Nat.lt_of_lt_of_le h2 hb.size, fun j c hj => (World.cell?_of_block (w := W) (a := ⟨b, o + j, none⟩) hbk).trans (h3 j c hj)⟩
theorem WAt.empty (W : World) (a : Option Addr) (c : Nat) : WAt W (.slice a 0 c) [] := ⟨a, c, rfl, fun h => by simp at h⟩
theorem flat_drop (ws : List Wd) (n j : Nat) (c : Value) (h : (flat (ws.drop n))[j]? = some c) (hn : n ≤ ws.length) : (flat ws)[n * 2 + j]? = some c := by
  have e : flat ws = flat (ws.take n) ++ flat (ws.drop n) := by rw [← flat_append, List.take_append_drop]
  have hl : (flat (ws.take n)).length = n * 2 := by rw [flat_len, List.length_take]; omega
  rw [e, List.getElem?_append_right (by omega), hl]
  simpa using h
theorem WAt.cut {W : World} {b o L c : Nat} {ws : List Wd} (h : WAt W (.slice (some ⟨b, o, none⟩) L c) ws) (n : Nat) (hn : n ≤ L) (c' : Nat) : WAt W (.slice (some ⟨b, o + n * 2, none⟩) (L - n) c') (ws.drop n) := by
  obtain ⟨a, cap, e, hc⟩ := h
  simp only [Value.slice.injEq] at e
  obtain ⟨rfl, rfl, rfl⟩ := e
  refine ⟨_, c', by rw [List.length_drop], fun hl => ?_⟩
  rw [List.length_drop] at hl
  obtain ⟨b', o', e, h2, h3⟩ := hc (by omega)
  cases e
  refine ⟨b, o + n * 2, rfl, h2, fun j x hj => ?_⟩
  rw [Nat.add_assoc]
  exact h3 _ _ (flat_drop ws n j x hj hn)

theorem WAt.rest {W : World} {p : Option Addr} {L c : Nat} {ws : List Wd} (h : WAt W (.slice p L c) ws) (n : Nat) (hn : n ≤ L) (c' : Nat) : WAt W (.slice (Option.map (fun x => x.add (n * 2)) p) (L - n) c') (ws.drop n) := by
  obtain ⟨a, cap, e, hc⟩ := h
  simp only [Value.slice.injEq] at e
  obtain ⟨rfl, rfl, rfl⟩ := e
  by_cases h0 : 0 < ws.length
  · obtain ⟨b, o, rfl, h2, h3⟩ := hc h0
    have e : (⟨b, o, none⟩ : Addr).add (n * 2) = ⟨b, o + n * 2, none⟩ := by
      unfold Addr.add
      split
      · next h => rw [h]; rfl
      · rfl
    simp only [Option.map_some]
    rw [e]
    exact WAt.cut ⟨_, c, rfl, hc⟩ n hn c'
  · have hw : ws = [] := List.length_eq_zero_iff.1 (by omega)
    subst hw
    have hn0 : n = 0 := by simpa using hn
    subst hn0
    exact WAt.empty W _ _
theorem WAt.over {W : World} {p : Option Addr} {L n : Nat} {ws : List Wd} (hl : ws.length = L) (hn : L ≤ n) (c : Nat) : WAt W (.slice p (L - n) c) (ws.drop n) := by
  rw [List.drop_eq_nil_of_le (by omega), Nat.sub_eq_zero_of_le hn]
  exact WAt.empty W _ _
theorem block_len (p : Option Addr) (L c L' c' : Nat) : (Value.slice p L c).ownBlock = (Value.slice p L' c').ownBlock := by cases p <;> rfl
theorem block_rest (p : Option Addr) (n L c L' c' g : Nat) (h : (Value.slice (Option.map (fun x => x.add n) p) L c).ownBlock = some g) : (Value.slice p L' c').ownBlock = some g := by
  cases p with
  | none => simp [Value.ownBlock] at h
  | some a =>
    simp only [Option.map_some, Value.ownBlock, Option.some.injEq] at h ⊢
    rw [← h]
    unfold Addr.add
    split <;> rfl

set_option maxRecDepth 100000 in
set_option maxHeartbeats 4000000 in
theorem turn_bad (b B lim : Nat) (us : List Row) (vl : Value) (w : World) (h : SInv w b B lim us vl) (pl : Option Addr) (L cl : Nat) (hne : L ≠ (wordsAll us).length) :
    Calls Try.prog 19 #[.pointer (some ⟨b, 0, none⟩), .slice pl L cl] w fun e w' => e = .returned (.int .i64 2) ∧ Below w.heap.size w w' := by
  have hS := h.blk
  have H := Lib.hid h
  obtain ⟨M, hM⟩ : ∃ n, (wordsAll us).length = n := ⟨_, rfl⟩
  have HM := Lib.hid hM
  rw [hM] at hne
  have hneI : ((L : Int) == (M : Int)) = false := by rw [beq_eq_false_iff_ne]; omega
  clear h hM
  go_enter Try.func19, Try.ntmps19
  go_wp2_with (first | (go_at_call 40; with_reducible refine (none_any b _ _ _ true _ hS).mono ?_; rintro e w1 ⟨rfl, hb1⟩) | (go_at_call 18; with_reducible refine (words_any b B lim us vl w1 (H.out.below hb1)).mono ?_; rintro e w2 ⟨v2, rfl, o2, hb2⟩; obtain ⟨p2, c2, rfl⟩ := own_shape o2; rw [HM.out]))
  go_ret
  exact ⟨rfl, hb1.trans (hb2.mono hb1.size)⟩

set_option maxRecDepth 100000 in
set_option maxHeartbeats 4000000 in
theorem turn_ok (b B lim : Nat) (us : List Row) (vl : Value) (w : World) (h : SInv w b B lim us vl) (pl : Option Addr) (L cl : Nat) (ls : List Wd) (hll : ls.length = L) (hcap : L ≤ cl) (hw : WAt w (.slice pl L cl) ls) (heq : ls.length = (wordsAll us).length)
    (hap : ∀ g, (Value.slice pl L cl).ownBlock = some g → g ∉ blksOf us) :
    Calls Try.prog 19 #[.pointer (some ⟨b, 0, none⟩), .slice pl L cl] w fun e w' => e = .returned (.int .i64 0) ∧ SInv w' b B lim (turnRows us ls) vl ∧ Off (fun k => k ∈ blksOf us) w w' := by
  have htk := h.tk
  have hlm := h.lm
  have hwl := wordsAll_len us
  have hS := h.blk
  have H := Lib.hid h
  obtain ⟨pv, cv, rfl⟩ := own_shape h.row
  have hbs := h.sz
  have hbB := h.lt
  have hus := len_le_taken us
  clear h
  obtain ⟨N, hN⟩ : ∃ n, us.length = n := ⟨_, rfl⟩
  have HN := Lib.hid hN
  rw [hN] at hus hS H
  clear hN
  have HE := Lib.hid heq; have HW := Lib.hid hw; have HAp := Lib.hid hap
  have hL : L ≤ 4194304 := by omega
  have HEL : Hid ((wordsAll us).length = L) := Lib.hid (by omega)
  clear heq hw hap
  have s0 := hS.cell
  have hnb : ∀ i, i ∈ blksOf us → B ≤ i ∧ i < w.heap.size := by
    intro i hi
    obtain ⟨x, hx, hb⟩ := of_mem_blks hi
    obtain ⟨q1, q2⟩ := H.out.wrd x hx
    rcases hb with hb | hb
    · exact ⟨own_from q1 i hb, own_lt q1 i hb⟩
    · exact ⟨own_from q2 i hb, own_lt q2 i hb⟩
  have HNb := Lib.hid hnb
  clear hnb
  go_enter Try.func19, Try.ntmps19
  go_wp2_with (first | (go_at_call 40; with_reducible refine (none_any b _ _ _ true _ hS).mono ?_; rintro e w1 ⟨rfl, hb1⟩; have S1 := hS.below hb1 hS.lt) | (go_at_call 18; with_reducible refine (words_any b B lim us _ w1 (H.out.below hb1)).mono ?_; rintro e w2 ⟨v2, rfl, o2, hb2⟩; obtain ⟨p2, c2, rfl⟩ := own_shape o2; rw [HEL.out]; have S2 := S1.below hb2 S1.lt; have s2 := S2.cell))
  have hb12 := hb1.trans (hb2.mono hb1.size)
  go_loopw [1, 20] (fun l i wr => ∃ (k : Nat) (pl' : Option Addr) (L' cl' : Nat) (rest : List Wd), i = .int .i64 k ∧ k ≤ N ∧ l = .slice pl' L' cl' ∧ rest.length = L' ∧ L' ≤ cl' ∧ rest = ls.drop (wordsAll (us.take k)).length ∧ WAt wr l rest ∧ (∀ g, l.ownBlock = some g → g ∉ blksOf us) ∧
    SInv wr b B lim (turnRows (us.take k) ls ++ us.drop k) (.slice pv N cv) ∧ Off (fun k => k ∈ blksOf us) w wr) (fun _ i _ => N - (intOf i).toNat)
  case atStart => exact ⟨0, pl, L, cl, ls, rfl, Nat.zero_le _, rfl, hll, hcap, by simp [wordsAll], HW.out.below hb12 (Nat.le_refl _), HAp.out, by simpa [turnRows] using H.out.below hb12, Off.of_below hb12⟩
  case round =>
    obtain ⟨k, pl', L', cl', rest, rfl, hk, rfl, hrl, hlc, hrest, hwat, hap, I, hoff⟩ := hrel
    by_cases hlt : k < N
    · have hkl : k < us.length := by rw [HN.out]; exact hlt
      have hdrop : us.drop k = us[k] :: us.drop (k + 1) := List.drop_eq_getElem_cons hkl
      have htake := take_succ hkl
      obtain ⟨u, hu⟩ : ∃ u, us[k] = u := ⟨_, rfl⟩
      have hum : u ∈ us := by rw [← hu]; exact List.getElem_mem _
      rw [hu] at hdrop htake
      rw [hdrop] at I
      have hlen2 := wordsAll_append (us.take k) [u]
      rw [← htake, wordsAll_one] at hlen2
      have hA : (turnRows (us.take k) ls).length = k := by rw [turnRows_len, List.length_take]; omega
      have hrow := I.row
      have hlenA : (turnRows (us.take k) ls ++ u :: us.drop (k + 1)).length = N := by
        simp only [List.length_append, List.length_cons, List.length_drop, hA, HN.out]
        omega
      have hrow' := hrow
      rw [hlenA, ← hlenA] at hrow'
      obtain ⟨g, rfl, hg, hc⟩ := own_row_cells hrow' k (by rw [hlenA]; exact hlt)
      have hget : (turnRows (us.take k) ls ++ u :: us.drop (k + 1))[k]'(by rw [hlenA]; exact hlt) = u := by
        rw [List.getElem_append_right (by omega)]
        simp [hA]
      rw [hget] at hc
      have hwr := I.wrd u (by simp)
      have hin : ∀ i, i ∈ blksOf [u] → i ∈ blksOf us := by
        intro i hi
        obtain ⟨x, hx, hb⟩ := of_mem_blks hi
        rw [List.mem_singleton] at hx
        subst hx
        exact mem_blks hum hb
      have hsz : (wordsAll (us.take (k + 1))).length ≤ (wordsAll us).length := by
        have h : wordsAll us = wordsAll (us.take (k + 1)) ++ wordsAll (us.drop (k + 1)) := by rw [← wordsAll_append, List.take_append_drop]
        rw [h, List.length_append]
        omega
      rw [hlen2, List.length_append, List.length_append, HEL.out] at hsz
      obtain ⟨m, hm⟩ : ∃ m, (wordsAll (us.take k)).length = m := ⟨_, rfl⟩
      rw [hm] at hrest hsz
      have hrl2 : rest.length = L - m := by rw [hrest, List.length_drop, hll]
      obtain ⟨f, uw, ud⟩ := u
      dsimp only at hwr hsz hlen2
      have W1 := hwr.1
      have W2 := hwr.2
      obtain ⟨aw, cw, rfl⟩ := own_shape W1
      obtain ⟨ad, cd, rfl⟩ := own_shape W2
      have r0 := hc 0 _ rfl
      have r1 := hc 1 _ rfl
      have r2 := hc 2 _ rfl
      have r3 := hc 3 _ rfl
      have r4 := hc 4 _ rfl
      have r5 := hc 5 _ rfl
      rw [Nat.add_zero] at r0
      have hltI : (k : Int) < (N : Int) := by omega
      have HI := Lib.hid I; have Hwat := Lib.hid hwat; have Hap := Lib.hid hap; have Hin := Lib.hid hin; have Hlen2 := Lib.hid hlen2; have Hrest := Lib.hid hrest; have Hrl := Lib.hid hrl; have Hoff := Lib.hid hoff; have Htake := Lib.hid htake; have Hm := Lib.hid hm; have HAk := Lib.hid hA
      have hA1 : ∀ g, (Value.slice aw f.ws.length cw).ownBlock = some g → g ∈ blksOf us := fun g hg => hin g (mem_blks (us := [⟨f, .slice aw f.ws.length cw, .slice ad f.ds.length cd⟩]) (List.mem_singleton.2 rfl) (.inl hg))
      have hA2 : ∀ g, (Value.slice ad f.ds.length cd).ownBlock = some g → g ∈ blksOf us := fun g hg => hin g (mem_blks (us := [⟨f, .slice aw f.ws.length cw, .slice ad f.ds.length cd⟩]) (List.mem_singleton.2 rfl) (.inr hg))
      have hne : ∀ g, (Value.slice aw f.ws.length cw).ownBlock = some g → (Value.slice ad f.ds.length cd).ownBlock = some g → False := by
        intro g h1 h2
        have hp := I.inc
        rw [blksOf_append, List.pairwise_append] at hp
        have hp2 := hp.2.1
        rw [show (⟨f, .slice aw f.ws.length cw, .slice ad f.ds.length cd⟩ : Row) :: us.drop (k + 1) = [⟨f, .slice aw f.ws.length cw, .slice ad f.ds.length cd⟩] ++ us.drop (k + 1) from rfl, blksOf_append, List.pairwise_append] at hp2
        have hp3 := hp2.1
        simp [blksOf, wordsOf, h1, h2] at hp3
      have HA1 := Lib.hid hA1; have HA2 := Lib.hid hA2; have HNe := Lib.hid hne
      clear hA1 hA2 hne
      clear hc hget hrow hrow' hlenA hwr I hwat hap hin hu hum hdrop htake hlen2 hrest hoff hm hA
      obtain ⟨lw, hlw⟩ : ∃ l, f.ws.length = l := ⟨_, rfl⟩
      obtain ⟨ld, hld⟩ : ∃ l, f.ds.length = l := ⟨_, rfl⟩
      rw [hlw] at W1 r4 hsz HA1 HNe
      rw [hld] at W2 r5 hsz HA2 HNe
      have Hlw := Lib.hid hlw; have Hld := Lib.hid hld
      have hfit : lw + ld ≤ L' := by omega
      have hL' : L' ≤ 4194304 := by omega
      clear hrl hrl2
      clear hlw hld
      go_upto_region 8 with fail
      generalize hW0 : wr.alloc (Obj.cells #[.int .i64 f.k, .int .i64 f.o, .int .i64 f.n, .string f.s, .slice aw lw cw, .slice ad ld cd] 32) = W0
      have P0 : Blk W0 wr.heap.size #[.int .i64 f.k, .int .i64 f.o, .int .i64 f.n, .string f.s, .slice aw lw cw, .slice ad ld cd] := by rw [← hW0]; exact Blk.new wr _ _
      have k0 : Below wr.heap.size wr W0 := by rw [← hW0]; ((repeat (first | exact Below.refl _ _ | (refine Below.alloc ?_ (by first | (simp [World.setCell]; done) | (simp [World.setCell]; omega)) _) | (refine Below.setCell ?_ (by first | (simp [World.setCell]; done) | (simp [World.setCell]; omega)) _) | refine Below.drew ?_)))
      have X1 := own_on W1 k0 (own_lt W1)
      have X2 := own_on W2 k0 (own_lt W2)
      have wat0 := Hwat.out.below k0 (Nat.le_refl _)
      have p0 := P0.cell
      clear hW0 r0 r1 r2 r3 r4 r5
      go_cut [1] (fun s1 wx => ∃ p' c', s1 = .slice p' (L' - lw) c' ∧ L' - lw ≤ c' ∧ WAt wx s1 (rest.drop lw) ∧ (∀ g, s1.ownBlock = some g → (Value.slice pl' L' cl').ownBlock = some g) ∧ WOwn wx B (.slice aw lw cw) (rest.take lw) ∧ Off (fun k => (Value.slice aw lw cw).ownBlock = some k) W0 wx)
      case first =>
        go_wp2_with (refine wpList_copy_words rfl _ _ 30 30 rfl Try.underlying30 B aw lw cw f.ws Hlw.out rfl X1 pl' L' cl' rest Hrl.out rfl wat0 (by omega) ?_; intro w1 o1 off1)
        all_goals
          have wat1 := wat0.off off1 (fun g hg hs => Hap.out g hg (HA1.out g hs))
          go_meet
        · exact ⟨_, _, rfl, by omega, WAt.over Hrl.out (by omega) _, fun g hg => by rw [block_len]; exact hg, o1, off1⟩
        · exact ⟨_, _, rfl, by omega, wat1.rest lw (by omega) _, fun g hg => block_rest _ _ _ _ _ _ g hg, o1, off1⟩
      case rest =>
        obtain ⟨p', c', rfl, hlc1, wat1, hb1', O1, off1⟩ := hcut
        have P1 := off1.blk P0 (fun hs => by have := own_lt W1 _ hs; omega)
        have p1 := P1.cell
        have Hb1 := Lib.hid hb1'
        have Y2 := off1.own X2 (fun g hg hs => HNe.out g hs hg)
        clear p0 hb1'
        go_upto_region 9 with fail
        go_wp2_with (refine wpList_copy_words rfl _ _ 30 30 rfl Try.underlying30 B ad ld cd f.ds Hld.out rfl Y2 p' (L' - lw) c' (rest.drop lw) (by rw [List.length_drop, Hrl.out]) rfl wat1 (by omega) ?_; intro w2 o2 off2)
        all_goals
          go_roundw
          case rel =>
            have wat2 := wat1.off off2 (fun g hg hs => Hap.out g (Hb1.out g hg) (HA2.out g hs))
            have O2 := off2.own O1 (fun g hg hs => HNe.out g hg hs)
            have hoffT := off1.trans off2 (T := fun i => (Value.slice aw lw cw).ownBlock = some i ∨ (Value.slice ad ld cd).ownBlock = some i) (fun i h => .inl h) (fun i h => .inl (.inr h))
            have hlt1 : (rest.take lw).length = lw := by rw [List.length_take, Hrl.out]; omega
            have hlt2 : ((rest.drop lw).take ld).length = ld := by rw [List.length_take, List.length_drop, Hrl.out]; omega
            have I2 := (HI.out.below k0).rewrite (f.turn rest) ⟨rfl, rfl, rfl, rfl⟩ (by show (rest.take f.ws.length).length = _; rw [Hlw.out]; exact hlt1) (by show ((rest.drop f.ws.length).take f.ds.length).length = _; rw [Hlw.out, Hld.out]; exact hlt2) _ hoffT
              (fun i h => by
                rcases h with h | h
                · exact mem_blks (List.mem_singleton.2 rfl) (.inl (by rw [← h]; exact block_len _ _ _ _ _))
                · exact mem_blks (List.mem_singleton.2 rfl) (.inr (by rw [← h]; exact block_len _ _ _ _ _)))
              (by show WOwn _ B (.slice aw f.ws.length cw) (rest.take f.ws.length); rw [Hlw.out]; exact O2)
              (by show WOwn _ B (.slice ad f.ds.length cd) ((rest.drop f.ws.length).take f.ds.length); rw [Hlw.out, Hld.out]; exact o2)
            have e1 : (rest.drop lw).drop ld = ls.drop (wordsAll (us.take (k + 1))).length := by
              rw [Hlen2.out, List.length_append, List.length_append, Hm.out, Hlw.out, Hld.out, Hrest.out, List.drop_drop, List.drop_drop]
            have e2 : turnRows (us.take k) ls ++ ⟨f.turn rest, .slice aw f.ws.length cw, .slice ad f.ds.length cd⟩ :: us.drop (k + 1) = turnRows (us.take (k + 1)) ls ++ us.drop (k + 1) := by
              rw [Htake.out, turnRows_append, Hm.out, ← Hrest.out]
              simp [turnRows]
            rw [e2] at I2
            refine ⟨k + 1, _, _, _, _, by go_num, by omega, rfl, ?_, ?_, e1, ?_, ?_, I2, ?_⟩
            · rw [List.length_drop, List.length_drop, Hrl.out]
            · omega
            · split
              · exact WAt.over (by rw [List.length_drop, Hrl.out]) (by omega) _
              · exact wat2.rest ld (by omega) _
            · intro g hg
              refine Hap.out g (Hb1.out g ?_)
              split at hg
              · rw [block_len]; exact hg
              · exact block_rest _ _ _ _ _ _ g hg
            · exact (Hoff.out.trans (Off.of_below (S := fun _ => False) k0) (T := fun i => i ∈ blksOf us) (fun i h => h) (fun i h => h.elim)).trans hoffT (fun i h => h) (fun i h => by
                left
                rcases h with h | h
                · exact HA1.out i h
                · exact HA2.out i h)
          case measure => simp [intOf]; omega
    · have hkN : k = N := by omega
      subst hkN
      have e0 : us.take k = us := by rw [← HN.out, List.take_length]
      have e1 : us.drop k = [] := by rw [← HN.out, List.drop_length]
      rw [e0, e1, List.append_nil] at I
      have HI := Lib.hid I; have Hoff := Lib.hid hoff
      clear I hoff hrest hwat hap e0 e1
      go_wp2
      go_ret
      exact ⟨rfl, by rw [HN.out]; exact HI.out, Hoff.out⟩

end Go.Proofs.Ytmnadlgglmhfhaa
