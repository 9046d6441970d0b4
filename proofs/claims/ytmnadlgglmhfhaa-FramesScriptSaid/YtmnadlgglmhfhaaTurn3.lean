/- The contracts of Turn where an empty list of words may have any pointer. -/
import Derived.Test.YtmnadlgglmhfhaaPick
namespace Go.Proofs.Ytmnadlgglmhfhaa
open Go.RowKit
set_option linter.unusedSimpArgs false

theorem WAt.off0 {S : Nat → Prop} {W W' : World} {v : Value} {ws : List Wd} (h : WAt W v ws) (hb : Off S W W') (hn : 0 < ws.length → ∀ g, v.ownBlock = some g → ¬ S g) : WAt W' v ws := by
  obtain ⟨a, cap, rfl, hc⟩ := h
  refine ⟨a, cap, rfl, fun hl => ?_⟩
  obtain ⟨b, o, rfl, h2, h3⟩ := hc hl
  have hbk := hb.block b h2 (hn hl b rfl)
  exact ⟨b, o, rfl, Nat.lt_of_lt_of_le h2 hb.size, fun j c hj => (World.cell?_of_block (w := W) (a := ⟨b, o + j, none⟩) hbk).trans (h3 j c hj)⟩

set_option maxRecDepth 100000 in
set_option maxHeartbeats 8000000 in
theorem turn_ok0 (b B lim : Nat) (us : List Row) (vl : Value) (w : World) (h : SInv w b B lim us vl) (pl : Option Addr) (L cl : Nat) (ls : List Wd) (hll : ls.length = L) (hcap : L ≤ cl) (hw : WAt w (.slice pl L cl) ls) (heq : ls.length = (wordsAll us).length)
    (hap : 0 < L → ∀ g, (Value.slice pl L cl).ownBlock = some g → g ∉ blksOf us) :
    Calls Try.prog 19 #[.pointer (some ⟨b, 0, none⟩), .slice pl L cl] w fun e w' => e = .returned (.int .i64 0) ∧ SInv w' b B lim (turnRows us ls) vl ∧ Off (fun k => k ∈ blksOf us) w w' := by
  have htk := h.tk
  have hlm := h.lm
  have hwl := wordsAll_len us
  have hS := h.blk
  have H := Lib.hid h
  obtain ⟨pv, cv, rfl⟩ := own_shape h.row
  have hbs := h.sz
  have hbB := h.lt
  have hus := len_le_taken us
  clear h
  obtain ⟨N, hN⟩ : ∃ n, us.length = n := ⟨_, rfl⟩
  have HN := Lib.hid hN
  rw [hN] at hus hS H
  clear hN
  have HE := Lib.hid heq; have HW := Lib.hid hw; have HAp := Lib.hid hap
  have hL : L ≤ 4194304 := by omega
  have HEL : Hid ((wordsAll us).length = L) := Lib.hid (by omega)
  clear heq hw hap
  have s0 := hS.cell
  have hnb : ∀ i, i ∈ blksOf us → B ≤ i ∧ i < w.heap.size := by
    intro i hi
    obtain ⟨x, hx, hb⟩ := of_mem_blks hi
    obtain ⟨q1, q2⟩ := H.out.wrd x hx
    rcases hb with hb | hb
    · exact ⟨own_from q1 i hb, own_lt q1 i hb⟩
    · exact ⟨own_from q2 i hb, own_lt q2 i hb⟩
  have HNb := Lib.hid hnb
  clear hnb
  go_enter Try.func19, Try.ntmps19
  go_wp2_with (first | (go_at_call 40; with_reducible refine (none_any b _ _ _ true _ hS).mono ?_; rintro e w1 ⟨rfl, hb1⟩; have S1 := hS.below hb1 hS.lt) | (go_at_call 18; with_reducible refine (words_any b B lim us _ w1 (H.out.below hb1)).mono ?_; rintro e w2 ⟨v2, rfl, o2, hb2⟩; obtain ⟨p2, c2, rfl⟩ := own_shape o2; rw [HEL.out]; have S2 := S1.below hb2 S1.lt; have s2 := S2.cell))
  have hb12 := hb1.trans (hb2.mono hb1.size)
  go_loopw [1, 20] (fun l i wr => ∃ (k : Nat) (pl' : Option Addr) (L' cl' : Nat) (rest : List Wd), i = .int .i64 k ∧ k ≤ N ∧ l = .slice pl' L' cl' ∧ rest.length = L' ∧ L' ≤ cl' ∧ rest = ls.drop (wordsAll (us.take k)).length ∧ WAt wr l rest ∧ (∀ g, l.ownBlock = some g → 0 < L → g ∉ blksOf us) ∧
    SInv wr b B lim (turnRows (us.take k) ls ++ us.drop k) (.slice pv N cv) ∧ Off (fun k => k ∈ blksOf us) w wr) (fun _ i _ => N - (intOf i).toNat)
  case atStart => exact ⟨0, pl, L, cl, ls, rfl, Nat.zero_le _, rfl, hll, hcap, by simp [wordsAll], HW.out.below hb12 (Nat.le_refl _), (fun g hg hp => HAp.out hp g hg), by simpa [turnRows] using H.out.below hb12, Off.of_below hb12⟩
  case round =>
    obtain ⟨k, pl', L', cl', rest, rfl, hk, rfl, hrl, hlc, hrest, hwat, hap, I, hoff⟩ := hrel
    by_cases hlt : k < N
    · have hkl : k < us.length := by rw [HN.out]; exact hlt
      have hdrop : us.drop k = us[k] :: us.drop (k + 1) := List.drop_eq_getElem_cons hkl
      have htake := take_succ hkl
      obtain ⟨u, hu⟩ : ∃ u, us[k] = u := ⟨_, rfl⟩
      have hum : u ∈ us := by rw [← hu]; exact List.getElem_mem _
      rw [hu] at hdrop htake
      rw [hdrop] at I
      have hlen2 := wordsAll_append (us.take k) [u]
      rw [← htake, wordsAll_one] at hlen2
      have hA : (turnRows (us.take k) ls).length = k := by rw [turnRows_len, List.length_take]; omega
      have hrow := I.row
      have hlenA : (turnRows (us.take k) ls ++ u :: us.drop (k + 1)).length = N := by
        simp only [List.length_append, List.length_cons, List.length_drop, hA, HN.out]
        omega
      have hrow' := hrow
      rw [hlenA, ← hlenA] at hrow'
      obtain ⟨g, rfl, hg, hc⟩ := own_row_cells hrow' k (by rw [hlenA]; exact hlt)
      have hget : (turnRows (us.take k) ls ++ u :: us.drop (k + 1))[k]'(by rw [hlenA]; exact hlt) = u := by
        rw [List.getElem_append_right (by omega)]
        simp [hA]
      rw [hget] at hc
      have hwr := I.wrd u (by simp)
      have hin : ∀ i, i ∈ blksOf [u] → i ∈ blksOf us := by
        intro i hi
        obtain ⟨x, hx, hb⟩ := of_mem_blks hi
        rw [List.mem_singleton] at hx
        subst hx
        exact mem_blks hum hb
      have hsz : (wordsAll (us.take (k + 1))).length ≤ (wordsAll us).length := by
        have h : wordsAll us = wordsAll (us.take (k + 1)) ++ wordsAll (us.drop (k + 1)) := by rw [← wordsAll_append, List.take_append_drop]
        rw [h, List.length_append]
        omega
      rw [hlen2, List.length_append, List.length_append, HEL.out] at hsz
      obtain ⟨m, hm⟩ : ∃ m, (wordsAll (us.take k)).length = m := ⟨_, rfl⟩
      rw [hm] at hrest hsz
      have hrl2 : rest.length = L - m := by rw [hrest, List.length_drop, hll]
      obtain ⟨f, uw, ud⟩ := u
      dsimp only at hwr hsz hlen2
      have W1 := hwr.1
      have W2 := hwr.2
      obtain ⟨aw, cw, rfl⟩ := own_shape W1
      obtain ⟨ad, cd, rfl⟩ := own_shape W2
      have r0 := hc 0 _ rfl
      have r1 := hc 1 _ rfl
      have r2 := hc 2 _ rfl
      have r3 := hc 3 _ rfl
      have r4 := hc 4 _ rfl
      have r5 := hc 5 _ rfl
      rw [Nat.add_zero] at r0
      have hltI : (k : Int) < (N : Int) := by omega
      have HI := Lib.hid I; have Hwat := Lib.hid hwat; have Hap := Lib.hid hap; have Hin := Lib.hid hin; have Hlen2 := Lib.hid hlen2; have Hrest := Lib.hid hrest; have Hrl := Lib.hid hrl; have Hoff := Lib.hid hoff; have Htake := Lib.hid htake; have Hm := Lib.hid hm; have HAk := Lib.hid hA
      have hA1 : ∀ g, (Value.slice aw f.ws.length cw).ownBlock = some g → g ∈ blksOf us := fun g hg => hin g (mem_blks (us := [⟨f, .slice aw f.ws.length cw, .slice ad f.ds.length cd⟩]) (List.mem_singleton.2 rfl) (.inl hg))
      have hA2 : ∀ g, (Value.slice ad f.ds.length cd).ownBlock = some g → g ∈ blksOf us := fun g hg => hin g (mem_blks (us := [⟨f, .slice aw f.ws.length cw, .slice ad f.ds.length cd⟩]) (List.mem_singleton.2 rfl) (.inr hg))
      have hne : ∀ g, (Value.slice aw f.ws.length cw).ownBlock = some g → (Value.slice ad f.ds.length cd).ownBlock = some g → False := by
        intro g h1 h2
        have hp := I.inc
        rw [blksOf_append, List.pairwise_append] at hp
        have hp2 := hp.2.1
        rw [show (⟨f, .slice aw f.ws.length cw, .slice ad f.ds.length cd⟩ : Row) :: us.drop (k + 1) = [⟨f, .slice aw f.ws.length cw, .slice ad f.ds.length cd⟩] ++ us.drop (k + 1) from rfl, blksOf_append, List.pairwise_append] at hp2
        have hp3 := hp2.1
        simp [blksOf, wordsOf, h1, h2] at hp3
      have HA1 := Lib.hid hA1; have HA2 := Lib.hid hA2; have HNe := Lib.hid hne
      clear hA1 hA2 hne
      clear hc hget hrow hrow' hlenA hwr I hwat hap hin hu hum hdrop htake hlen2 hrest hoff hm hA
      obtain ⟨lw, hlw⟩ : ∃ l, f.ws.length = l := ⟨_, rfl⟩
      obtain ⟨ld, hld⟩ : ∃ l, f.ds.length = l := ⟨_, rfl⟩
      rw [hlw] at W1 r4 hsz HA1 HNe
      rw [hld] at W2 r5 hsz HA2 HNe
      have Hlw := Lib.hid hlw; have Hld := Lib.hid hld
      have hfit : lw + ld ≤ L' := by omega
      have hL' : L' ≤ 4194304 := by omega
      have HRl : Hid (rest.length ≤ L) := Lib.hid (by omega)
      clear hrl hrl2
      clear hlw hld
      go_upto_region 8 with fail
      generalize hW0 : wr.alloc (Obj.cells #[.int .i64 f.k, .int .i64 f.o, .int .i64 f.n, .string f.s, .slice aw lw cw, .slice ad ld cd] 32) = W0
      have P0 : Blk W0 wr.heap.size #[.int .i64 f.k, .int .i64 f.o, .int .i64 f.n, .string f.s, .slice aw lw cw, .slice ad ld cd] := by rw [← hW0]; exact Blk.new wr _ _
      have k0 : Below wr.heap.size wr W0 := by rw [← hW0]; ((repeat (first | exact Below.refl _ _ | (refine Below.alloc ?_ (by first | (simp [World.setCell]; done) | (simp [World.setCell]; omega)) _) | (refine Below.setCell ?_ (by first | (simp [World.setCell]; done) | (simp [World.setCell]; omega)) _) | refine Below.drew ?_)))
      have X1 := own_on W1 k0 (own_lt W1)
      have X2 := own_on W2 k0 (own_lt W2)
      have wat0 := Hwat.out.below k0 (Nat.le_refl _)
      have p0 := P0.cell
      clear hW0 r0 r1 r2 r3 r4 r5
      go_cut [1] (fun s1 wx => ∃ p' c', s1 = .slice p' (L' - lw) c' ∧ L' - lw ≤ c' ∧ WAt wx s1 (rest.drop lw) ∧ (∀ g, s1.ownBlock = some g → (Value.slice pl' L' cl').ownBlock = some g) ∧ WOwn wx B (.slice aw lw cw) (rest.take lw) ∧ Off (fun k => (Value.slice aw lw cw).ownBlock = some k) W0 wx)
      case first =>
        go_wp2_with (refine wpList_copy_words rfl _ _ 30 30 rfl Try.underlying30 B aw lw cw f.ws Hlw.out rfl X1 pl' L' cl' rest Hrl.out rfl wat0 (by omega) ?_; intro w1 o1 off1)
        all_goals
          have wat1 := wat0.off0 off1 (fun hp g hg hs => Hap.out g hg (by have := HRl.out; omega) (HA1.out g hs))
          go_meet
        · exact ⟨_, _, rfl, by omega, WAt.over Hrl.out (by omega) _, fun g hg => by rw [block_len]; exact hg, o1, off1⟩
        · exact ⟨_, _, rfl, by omega, wat1.rest lw (by omega) _, fun g hg => block_rest _ _ _ _ _ _ g hg, o1, off1⟩
      case rest =>
        obtain ⟨p', c', rfl, hlc1, wat1, hb1', O1, off1⟩ := hcut
        have P1 := off1.blk P0 (fun hs => by have := own_lt W1 _ hs; omega)
        have p1 := P1.cell
        have Hb1 := Lib.hid hb1'
        have Y2 := off1.own X2 (fun g hg hs => HNe.out g hs hg)
        clear p0 hb1'
        go_upto_region 9 with fail
        go_wp2_with (refine wpList_copy_words rfl _ _ 30 30 rfl Try.underlying30 B ad ld cd f.ds Hld.out rfl Y2 p' (L' - lw) c' (rest.drop lw) (by rw [List.length_drop, Hrl.out]) rfl wat1 (by omega) ?_; intro w2 o2 off2)
        all_goals
          go_roundw
          case rel =>
            have wat2 := wat1.off0 off2 (fun hp g hg hs => Hap.out g (Hb1.out g hg) (by have := HRl.out; rw [List.length_drop] at hp; omega) (HA2.out g hs))
            have O2 := off2.own O1 (fun g hg hs => HNe.out g hg hs)
            have hoffT := off1.trans off2 (T := fun i => (Value.slice aw lw cw).ownBlock = some i ∨ (Value.slice ad ld cd).ownBlock = some i) (fun i h => .inl h) (fun i h => .inl (.inr h))
            have hlt1 : (rest.take lw).length = lw := by rw [List.length_take, Hrl.out]; omega
            have hlt2 : ((rest.drop lw).take ld).length = ld := by rw [List.length_take, List.length_drop, Hrl.out]; omega
            have I2 := (HI.out.below k0).rewrite (f.turn rest) ⟨rfl, rfl, rfl, rfl⟩ (by show (rest.take f.ws.length).length = _; rw [Hlw.out]; exact hlt1) (by show ((rest.drop f.ws.length).take f.ds.length).length = _; rw [Hlw.out, Hld.out]; exact hlt2) _ hoffT
              (fun i h => by
                rcases h with h | h
                · exact mem_blks (List.mem_singleton.2 rfl) (.inl (by rw [← h]; exact block_len _ _ _ _ _))
                · exact mem_blks (List.mem_singleton.2 rfl) (.inr (by rw [← h]; exact block_len _ _ _ _ _)))
              (by show WOwn _ B (.slice aw f.ws.length cw) (rest.take f.ws.length); rw [Hlw.out]; exact O2)
              (by show WOwn _ B (.slice ad f.ds.length cd) ((rest.drop f.ws.length).take f.ds.length); rw [Hlw.out, Hld.out]; exact o2)
            have e1 : (rest.drop lw).drop ld = ls.drop (wordsAll (us.take (k + 1))).length := by
              rw [Hlen2.out, List.length_append, List.length_append, Hm.out, Hlw.out, Hld.out, Hrest.out, List.drop_drop, List.drop_drop]
            have e2 : turnRows (us.take k) ls ++ ⟨f.turn rest, .slice aw f.ws.length cw, .slice ad f.ds.length cd⟩ :: us.drop (k + 1) = turnRows (us.take (k + 1)) ls ++ us.drop (k + 1) := by
              rw [Htake.out, turnRows_append, Hm.out, ← Hrest.out]
              simp [turnRows]
            rw [e2] at I2
            refine ⟨k + 1, _, _, _, _, by go_num, by omega, rfl, ?_, ?_, e1, ?_, ?_, I2, ?_⟩
            · rw [List.length_drop, List.length_drop, Hrl.out]
            · omega
            · split
              · exact WAt.over (by rw [List.length_drop, Hrl.out]) (by omega) _
              · exact wat2.rest ld (by omega) _
            · intro g hg hp
              refine Hap.out g (Hb1.out g ?_) hp
              split at hg
              · rw [block_len]; exact hg
              · exact block_rest _ _ _ _ _ _ g hg
            · exact (Hoff.out.trans (Off.of_below (S := fun _ => False) k0) (T := fun i => i ∈ blksOf us) (fun i h => h) (fun i h => h.elim)).trans hoffT (fun i h => h) (fun i h => by
                left
                rcases h with h | h
                · exact HA1.out i h
                · exact HA2.out i h)
          case measure => simp [intOf]; omega
    · have hkN : k = N := by omega
      subst hkN
      have e0 : us.take k = us := by rw [← HN.out, List.take_length]
      have e1 : us.drop k = [] := by rw [← HN.out, List.drop_length]
      rw [e0, e1, List.append_nil] at I
      have HI := Lib.hid I; have Hoff := Lib.hid hoff
      clear I hoff hrest hwat hap e0 e1
      go_wp2
      go_ret
      exact ⟨rfl, by rw [HN.out]; exact HI.out, Hoff.out⟩

set_option maxRecDepth 100000 in
set_option maxHeartbeats 8000000 in
theorem rturn_ok0 (b B lim : Nat) (us : List Row) (vl : Value) (w : World) (h : RInv w b B lim us vl) (pl : Option Addr) (L cl : Nat) (ls : List Wd) (hll : ls.length = L) (hw : WAt w (.slice pl L cl) ls) (heq : ls.length = (wordsAll us).length)
    (hap : 0 < L → ∀ g, (Value.slice pl L cl).ownBlock = some g → g ∉ blksOf us) :
    Calls Try.prog 30 #[.pointer (some ⟨b, 0, none⟩), .slice pl L cl] w fun e w' => e = .returned (.int .i64 0) ∧ RInv w' b B lim (turnRows us ls) vl ∧ Off (fun k => k ∈ blksOf us) w w' := by
  have htk := h.tk
  have hlm := h.lm
  have hwl := wordsAll_len us
  have hS := h.blk
  have H := Lib.hid h
  obtain ⟨pv, cv, rfl⟩ := own_shape h.row
  have hbs := h.sz
  have hbB := h.lt
  have hus := len_le_taken us
  clear h
  obtain ⟨N, hN⟩ : ∃ n, us.length = n := ⟨_, rfl⟩
  have HN := Lib.hid hN
  rw [hN] at hus hS H
  clear hN
  have HE := Lib.hid heq; have HW := Lib.hid hw; have HAp := Lib.hid hap; have HLL := Lib.hid hll
  have hL : L ≤ 4194304 := by omega
  have HEL : Hid ((wordsAll us).length = L) := Lib.hid (by omega)
  clear heq hw hap hll
  go_enter Try.func30, Try.ntmps30
  go_wp2_with (first | (go_at_call 43; with_reducible refine (rnone_any b _ _ true _ hS).mono ?_; rintro e w1 ⟨rfl, hb1⟩) | (go_at_call 38; with_reducible refine (rwords_any b B lim us _ w1 (H.out.below hb1)).mono ?_; rintro e w2 ⟨v2, rfl, o2, hb2⟩; obtain ⟨p2, c2, rfl⟩ := own_shape o2; rw [HEL.out]))
  have hb12 := hb1.trans (hb2.mono hb1.size)
  go_loopw [5, 6] (fun kk i wr => ∃ (k m : Nat), i = .int .i64 k ∧ k ≤ N ∧ kk = .int .i64 m ∧ (wordsAll (us.take k)).length = m ∧ WAt wr (.slice pl L cl) ls ∧ RInv wr b B lim (turnRows (us.take k) ls ++ us.drop k) (.slice pv N cv) ∧ Off (fun k => k ∈ blksOf us) w wr) (fun _ i _ => N - (intOf i).toNat)
  case atStart => exact ⟨0, 0, rfl, Nat.zero_le _, rfl, rfl, HW.out.below hb12 (Nat.le_refl _), by simpa [turnRows] using H.out.below hb12, Off.of_below hb12⟩
  case round =>
    obtain ⟨k, m, rfl, hk, rfl, hm, hwat, I, hoff⟩ := hrel
    have S1 := I.blk
    have s1 := S1.cell
    by_cases hlt : k < N
    · have hkl : k < us.length := by rw [HN.out]; exact hlt
      have hdrop : us.drop k = us[k] :: us.drop (k + 1) := List.drop_eq_getElem_cons hkl
      have htake := take_succ hkl
      obtain ⟨u, hu⟩ : ∃ u, us[k] = u := ⟨_, rfl⟩
      have hum : u ∈ us := by rw [← hu]; exact List.getElem_mem _
      rw [hu] at hdrop htake
      rw [hdrop] at I
      have hlen2 := wordsAll_append (us.take k) [u]
      rw [← htake, wordsAll_one] at hlen2
      have hA : (turnRows (us.take k) ls).length = k := by rw [turnRows_len, List.length_take]; omega
      have hlenC : (us.drop (k + 1)).length = N - (k + 1) := by rw [List.length_drop, HN.out]
      obtain ⟨A, hAe⟩ : ∃ A, turnRows (us.take k) ls = A := ⟨_, rfl⟩
      obtain ⟨C, hCe⟩ : ∃ C, us.drop (k + 1) = C := ⟨_, rfl⟩
      rw [hAe] at I hA
      rw [hCe] at I hlenC
      have hsz : (wordsAll (us.take (k + 1))).length ≤ (wordsAll us).length := by
        have h : wordsAll us = wordsAll (us.take (k + 1)) ++ wordsAll (us.drop (k + 1)) := by rw [← wordsAll_append, List.take_append_drop]
        rw [h, List.length_append]
        omega
      rw [hlen2, List.length_append, List.length_append, HEL.out, hm] at hsz
      obtain ⟨rest, hrest⟩ : ∃ r, ls.drop m = r := ⟨_, rfl⟩
      have hrl : rest.length = L - m := by rw [← hrest, List.length_drop, HLL.out]
      obtain ⟨f, uw, ud⟩ := u
      have hwr := I.wrd ⟨f, uw, ud⟩ (by simp)
      dsimp only at hwr hsz hlen2
      obtain ⟨aw, cw, rfl⟩ := own_shape hwr.1
      obtain ⟨ad, cd, rfl⟩ := own_shape hwr.2
      have hfit : f.ws.length + f.ds.length ≤ rest.length := by omega
      have HFit := Lib.hid hfit
      have hbk : ∀ j i x, x ∈ blksOf [(⟨part f rest j i, .slice aw f.ws.length cw, .slice ad f.ds.length cd⟩ : Row)] → x ∈ blksOf us := by
        intro j i x hx
        obtain ⟨y, hy, hb⟩ := of_mem_blks hx
        rw [List.mem_singleton] at hy
        subst hy
        exact mem_blks hum hb
      rw [← part_start f rest] at I
      have hNk : k + (C.length + 1) = N := by omega
      obtain ⟨g, rfl, hg0, hc0⟩ := I.cells hA hNk
      have hltI : (k : Int) < (N : Int) := by omega
      have hLm : m + (f.ws.length + f.ds.length) ≤ L := hsz
      have HA := Lib.hid hA; have HNk := Lib.hid hNk; have Hrest := Lib.hid hrest; have Hrl := Lib.hid hrl; have Hbk := Lib.hid hbk; have Hlen2 := Lib.hid hlen2; have Htake := Lib.hid htake; have Hm := Lib.hid hm; have HAe := Lib.hid hAe; have HCe := Lib.hid hCe
      clear hA hNk hrest hrl hbk hlen2 htake hm hAe hCe hc0 hwr hum hu hdrop hfit hlenC hsz
      go_wp2
      go_loopw [5, 7] (fun kk i wx => ∃ j : Nat, i = .int .i64 j ∧ j ≤ f.ws.length ∧ kk = .int .i64 ((m : Int) + (j : Int)) ∧ WAt wx (.slice pl L cl) ls ∧ RInv wx b B lim (A ++ ⟨part f rest j 0, .slice aw f.ws.length cw, .slice ad f.ds.length cd⟩ :: C) (.slice (some ⟨g, 0, none⟩) N cv) ∧ Off (fun k => k ∈ blksOf us) w wx) (fun _ i _ => f.ws.length - (intOf i).toNat)
      case atStart => exact ⟨0, rfl, Nat.zero_le _, by simp, hwat, I, hoff⟩
      case round =>
        obtain ⟨j, rfl, hj, rfl, hwat2, I2, hoff2⟩ := hrel
        have S2 := I2.blk
        have s2 := S2.cell
        obtain ⟨g', e, hg2, hc2⟩ := I2.cells HA.out HNk.out
        cases e
        have r4 := hc2 4 _ rfl
        clear hc2
        have hrl := Hrl.out
        by_cases hjl : j < f.ws.length
        · have hjI : (j : Int) < (f.ws.length : Int) := by omega
          have hml : m + j < ls.length := by rw [HLL.out]; omega
          obtain ⟨bl, ol, rfl, q0, q1⟩ := hwat2.word (m + j) hml
          obtain ⟨gw, rfl, hR, hgB, I3, hoff3⟩ := I2.word hjl HFit.out (by omega)
          have hgetr : rest[j]'(by omega) = ls[m + j] := by
            have h1 : rest[j]? = ls[m + j]? := by rw [← Hrest.out, List.getElem?_drop]
            rw [List.getElem?_eq_getElem (by omega), List.getElem?_eq_getElem hml] at h1
            exact Option.some.inj h1
          rw [hgetr] at I3 hoff3
          have hgu : gw ∈ blksOf us := Hbk.out j 0 gw (mem_blks (List.mem_singleton.2 rfl) (.inl rfl))
          have hwat3 := hwat2.off hoff3 (fun x hx e => HAp.out (by omega) x hx (by rw [e]; exact hgu))
          have hoffT := hoff2.trans hoff3 (T := fun i => i ∈ blksOf us) (fun i h => h) (fun i h => .inl (by rw [h]; exact hgu))
          obtain ⟨u0, hu0⟩ := hR.cell (j * 2) (by omega)
          obtain ⟨u1, hu1⟩ := hR.cell (j * 2 + 1) (by omega)
          have fr := hR.free
          have HI3 := Lib.hid I3; have Hw3 := Lib.hid hwat3; have HoT := Lib.hid hoffT
          have hmjI : (m : Int) + (j : Int) < (L : Int) := by omega
          have hmj0 : (0 : Int) ≤ (m : Int) + (j : Int) := by omega
          have hcast : ((m : Int) + (j : Int)).toNat = m + j := by omega
          clear I3 hwat3 hoffT hoff3 hgetr I2 hoff2 hwat2 hrl
          go_upto_region 12 with fail
          go_still_tail 13, (by kernel_rfl)
          go_wp2
          refine ⟨⟨j + 1, by simp, by omega, by simp [Int.add_assoc], Hw3.out.below (Below.refl _ _).drew (Nat.le_refl _), HI3.out.below (Below.refl _ _).drew, HoT.out.trans (Off.of_below (S := fun _ => False) (Below.refl _ _).drew) (fun i h => h) (fun i h => h.elim)⟩, by simp [intOf]; omega⟩
        · have hjE : j = f.ws.length := by omega
          subst hjE
          clear hrl
          go_wp2
          go_loopw [5, 8] (fun kk i wx => ∃ t : Nat, i = .int .i64 t ∧ t ≤ f.ds.length ∧ kk = .int .i64 ((m : Int) + (f.ws.length : Int) + (t : Int)) ∧ WAt wx (.slice pl L cl) ls ∧ RInv wx b B lim (A ++ ⟨part f rest f.ws.length t, .slice aw f.ws.length cw, .slice ad f.ds.length cd⟩ :: C) (.slice (some ⟨g, 0, none⟩) N cv) ∧ Off (fun k => k ∈ blksOf us) w wx) (fun _ i _ => f.ds.length - (intOf i).toNat)
          case atStart => exact ⟨0, rfl, Nat.zero_le _, by simp, hwat2, I2, hoff2⟩
          case round =>
            obtain ⟨t, rfl, ht, rfl, hwat4, I4, hoff4⟩ := hrel
            have S4 := I4.blk
            have s4 := S4.cell
            obtain ⟨g', e, hg4, hc4⟩ := I4.cells HA.out HNk.out
            cases e
            have r5 := hc4 5 _ rfl
            clear hc4
            have hrl := Hrl.out
            by_cases htl : t < f.ds.length
            · have htI : (t : Int) < (f.ds.length : Int) := by omega
              have hml : m + (f.ws.length + t) < ls.length := by rw [HLL.out]; omega
              obtain ⟨bl, ol, rfl, q0, q1⟩ := hwat4.word (m + (f.ws.length + t)) hml
              obtain ⟨gw, rfl, hR, hgB, I5, hoff5⟩ := I4.done htl HFit.out (by omega)
              have hgetr : rest[f.ws.length + t]'(by omega) = ls[m + (f.ws.length + t)] := by
                have h1 : rest[f.ws.length + t]? = ls[m + (f.ws.length + t)]? := by rw [← Hrest.out, List.getElem?_drop]
                rw [List.getElem?_eq_getElem (by omega), List.getElem?_eq_getElem hml] at h1
                exact Option.some.inj h1
              rw [hgetr] at I5 hoff5
              have hgu : gw ∈ blksOf us := Hbk.out f.ws.length t gw (mem_blks (List.mem_singleton.2 rfl) (.inr rfl))
              have hwat5 := hwat4.off hoff5 (fun x hx e => HAp.out (by omega) x hx (by rw [e]; exact hgu))
              have hoffT := hoff4.trans hoff5 (T := fun i => i ∈ blksOf us) (fun i h => h) (fun i h => .inl (by rw [h]; exact hgu))
              obtain ⟨u0, hu0⟩ := hR.cell (t * 2) (by omega)
              obtain ⟨u1, hu1⟩ := hR.cell (t * 2 + 1) (by omega)
              have fr := hR.free
              have HI5 := Lib.hid I5; have Hw5 := Lib.hid hwat5; have HoT := Lib.hid hoffT
              have hmjI : (m : Int) + (f.ws.length : Int) + (t : Int) < (L : Int) := by omega
              have hmj0 : (0 : Int) ≤ (m : Int) + (f.ws.length : Int) + (t : Int) := by omega
              have hcast : ((m : Int) + (f.ws.length : Int) + (t : Int)).toNat = m + (f.ws.length + t) := by omega
              clear I5 hwat5 hoffT hoff5 hgetr I4 hoff4 hwat4 hrl
              go_upto_region 17 with fail
              go_still_tail 13, (by kernel_rfl)
              go_wp2
              refine ⟨⟨t + 1, by simp, by omega, by simp [Int.add_assoc], Hw5.out.below (Below.refl _ _).drew (Nat.le_refl _), HI5.out.below (Below.refl _ _).drew, HoT.out.trans (Off.of_below (S := fun _ => False) (Below.refl _ _).drew) (fun i h => h) (fun i h => h.elim)⟩, by simp [intOf]; omega⟩
            · have htE : t = f.ds.length := by omega
              subst htE
              rw [part_end] at I4
              have e1 : (wordsAll (us.take (k + 1))).length = m + (f.ws.length + f.ds.length) := by rw [Hlen2.out, List.length_append, List.length_append, Hm.out]
              have e2 : A ++ ⟨f.turn rest, .slice aw f.ws.length cw, .slice ad f.ds.length cd⟩ :: C = turnRows (us.take (k + 1)) ls ++ us.drop (k + 1) := by
                rw [Htake.out, turnRows_append, Hm.out, Hrest.out, HAe.out, HCe.out]
                simp [turnRows]
              rw [e2] at I4
              have HI4 := Lib.hid I4; have He1 := Lib.hid e1; have Hw4 := Lib.hid hwat4; have Ho4 := Lib.hid hoff4
              clear I4 e1 e2 hwat4 hoff4 hrl
              go_wp2
              go_roundw
              case rel => exact ⟨k + 1, m + (f.ws.length + f.ds.length), by go_num, by omega, by simp [Int.add_assoc], He1.out, Hw4.out, HI4.out, Ho4.out⟩
              case measure => simp [intOf]; omega
    · have hkN : k = N := by omega
      subst hkN
      have e0 : us.take k = us := by rw [← HN.out, List.take_length]
      have e1 : us.drop k = [] := by rw [← HN.out, List.drop_length]
      rw [e0, e1, List.append_nil] at I
      have HI := Lib.hid I; have Hoff := Lib.hid hoff
      obtain ⟨q, hq⟩ : ∃ q, (Value.slice pv k cv) = q := ⟨_, rfl⟩
      clear I hoff hwat e0 e1 hm hq
      go_wp2
      go_ret
      exact ⟨rfl, by rw [HN.out]; exact HI.out, Hoff.out⟩

end Go.Proofs.Ytmnadlgglmhfhaa
