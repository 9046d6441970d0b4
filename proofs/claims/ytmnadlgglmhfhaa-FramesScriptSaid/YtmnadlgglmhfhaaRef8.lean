/- Contract of the reference's Turn where it turns. -/
import Derived.Test.YtmnadlgglmhfhaaRef7
import Derived.StillTailTactics
namespace Go.Proofs.Ytmnadlgglmhfhaa
open Go.RowKit

theorem RInv.cells {W : World} {b B lim : Nat} {A C : List Row} {u : Row} {pv : Option Addr} {N cv k : Nat} (h : RInv W b B lim (A ++ u :: C) (.slice pv N cv)) (hA : A.length = k) (hN : k + (C.length + 1) = N) :
    ∃ g, pv = some ⟨g, 0, none⟩ ∧ g < W.heap.size ∧ ∀ i c, u.cells[i]? = some c → W.cell? ⟨g, k * 6 + i, none⟩ = some c := by
  have hl : (A ++ u :: C).length = N := by simp only [List.length_append, List.length_cons, hA]; exact hN
  have hr := h.row
  rw [hl, ← hl] at hr
  have hk : k < (A ++ u :: C).length := by omega
  obtain ⟨g, e, hg, hc⟩ := own_row_cells hr k hk
  have hget : (A ++ u :: C)[k]'hk = u := by
    rw [List.getElem_append_right (by omega)]
    simp [hA]
  rw [hget] at hc
  exact ⟨g, e, hg, hc⟩

theorem WAt.word {W : World} {pl : Option Addr} {L cl : Nat} {ls : List Wd} (h : WAt W (.slice pl L cl) ls) (t : Nat) (ht : t < ls.length) :
    ∃ bl ol, pl = some ⟨bl, ol, none⟩ ∧ W.cell? ⟨bl, ol + t * 2, none⟩ = some (.int .i64 ls[t].1) ∧ W.cell? ⟨bl, ol + t * 2 + 1, none⟩ = some (.int .i64 ls[t].2) := by
  obtain ⟨a, cap, e, hc⟩ := h
  simp only [Value.slice.injEq] at e
  obtain ⟨rfl, rfl, rfl⟩ := e
  obtain ⟨bl, ol, rfl, _, hcl⟩ := hc (by omega)
  obtain ⟨h1, h2⟩ := flat_get ls t ht
  refine ⟨bl, ol, rfl, ?_, ?_⟩
  · have := hcl _ _ h1; rwa [Nat.mul_comm] at this
  · have := hcl _ _ h2; rw [Nat.mul_comm] at this; exact this

set_option maxRecDepth 100000 in
set_option maxHeartbeats 8000000 in
theorem rturn_ok (b B lim : Nat) (us : List Row) (vl : Value) (w : World) (h : RInv w b B lim us vl) (pl : Option Addr) (L cl : Nat) (ls : List Wd) (hll : ls.length = L) (hw : WAt w (.slice pl L cl) ls) (heq : ls.length = (wordsAll us).length)
    (hap : ∀ g, (Value.slice pl L cl).ownBlock = some g → g ∉ blksOf us) :
    Calls Try.prog 30 #[.pointer (some ⟨b, 0, none⟩), .slice pl L cl] w fun e w' => e = .returned (.int .i64 0) ∧ RInv w' b B lim (turnRows us ls) vl ∧ Off (fun k => k ∈ blksOf us) w w' := by
  have htk := h.tk
  have hlm := h.lm
  have hwl := wordsAll_len us
  have hS := h.blk
  have H := Lib.hid h
  obtain ⟨pv, cv, rfl⟩ := own_shape h.row
  have hbs := h.sz
  have hbB := h.lt
  have hus := len_le_taken us
  clear h
  obtain ⟨N, hN⟩ : ∃ n, us.length = n := ⟨_, rfl⟩
  have HN := Lib.hid hN
  rw [hN] at hus hS H
  clear hN
  have HE := Lib.hid heq; have HW := Lib.hid hw; have HAp := Lib.hid hap; have HLL := Lib.hid hll
  have hL : L ≤ 4194304 := by omega
  have HEL : Hid ((wordsAll us).length = L) := Lib.hid (by omega)
  clear heq hw hap hll
  go_enter Try.func30, Try.ntmps30
  go_wp2_with (first | (go_at_call 43; with_reducible refine (rnone_any b _ _ true _ hS).mono ?_; rintro e w1 ⟨rfl, hb1⟩) | (go_at_call 38; with_reducible refine (rwords_any b B lim us _ w1 (H.out.below hb1)).mono ?_; rintro e w2 ⟨v2, rfl, o2, hb2⟩; obtain ⟨p2, c2, rfl⟩ := own_shape o2; rw [HEL.out]))
  have hb12 := hb1.trans (hb2.mono hb1.size)
  go_loopw [5, 6] (fun kk i wr => ∃ (k m : Nat), i = .int .i64 k ∧ k ≤ N ∧ kk = .int .i64 m ∧ (wordsAll (us.take k)).length = m ∧ WAt wr (.slice pl L cl) ls ∧ RInv wr b B lim (turnRows (us.take k) ls ++ us.drop k) (.slice pv N cv) ∧ Off (fun k => k ∈ blksOf us) w wr) (fun _ i _ => N - (intOf i).toNat)
  case atStart => exact ⟨0, 0, rfl, Nat.zero_le _, rfl, rfl, HW.out.below hb12 (Nat.le_refl _), by simpa [turnRows] using H.out.below hb12, Off.of_below hb12⟩
  case round =>
    obtain ⟨k, m, rfl, hk, rfl, hm, hwat, I, hoff⟩ := hrel
    have S1 := I.blk
    have s1 := S1.cell
    by_cases hlt : k < N
    · have hkl : k < us.length := by rw [HN.out]; exact hlt
      have hdrop : us.drop k = us[k] :: us.drop (k + 1) := List.drop_eq_getElem_cons hkl
      have htake := take_succ hkl
      obtain ⟨u, hu⟩ : ∃ u, us[k] = u := ⟨_, rfl⟩
      have hum : u ∈ us := by rw [← hu]; exact List.getElem_mem _
      rw [hu] at hdrop htake
      rw [hdrop] at I
      have hlen2 := wordsAll_append (us.take k) [u]
      rw [← htake, wordsAll_one] at hlen2
      have hA : (turnRows (us.take k) ls).length = k := by rw [turnRows_len, List.length_take]; omega
      have hlenC : (us.drop (k + 1)).length = N - (k + 1) := by rw [List.length_drop, HN.out]
      obtain ⟨A, hAe⟩ : ∃ A, turnRows (us.take k) ls = A := ⟨_, rfl⟩
      obtain ⟨C, hCe⟩ : ∃ C, us.drop (k + 1) = C := ⟨_, rfl⟩
      rw [hAe] at I hA
      rw [hCe] at I hlenC
      have hsz : (wordsAll (us.take (k + 1))).length ≤ (wordsAll us).length := by
        have h : wordsAll us = wordsAll (us.take (k + 1)) ++ wordsAll (us.drop (k + 1)) := by rw [← wordsAll_append, List.take_append_drop]
        rw [h, List.length_append]
        omega
      rw [hlen2, List.length_append, List.length_append, HEL.out, hm] at hsz
      obtain ⟨rest, hrest⟩ : ∃ r, ls.drop m = r := ⟨_, rfl⟩
      have hrl : rest.length = L - m := by rw [← hrest, List.length_drop, HLL.out]
      obtain ⟨f, uw, ud⟩ := u
      have hwr := I.wrd ⟨f, uw, ud⟩ (by simp)
      dsimp only at hwr hsz hlen2
      obtain ⟨aw, cw, rfl⟩ := own_shape hwr.1
      obtain ⟨ad, cd, rfl⟩ := own_shape hwr.2
      have hfit : f.ws.length + f.ds.length ≤ rest.length := by omega
      have HFit := Lib.hid hfit
      have hbk : ∀ j i x, x ∈ blksOf [(⟨part f rest j i, .slice aw f.ws.length cw, .slice ad f.ds.length cd⟩ : Row)] → x ∈ blksOf us := by
        intro j i x hx
        obtain ⟨y, hy, hb⟩ := of_mem_blks hx
        rw [List.mem_singleton] at hy
        subst hy
        exact mem_blks hum hb
      rw [← part_start f rest] at I
      have hNk : k + (C.length + 1) = N := by omega
      obtain ⟨g, rfl, hg0, hc0⟩ := I.cells hA hNk
      have hltI : (k : Int) < (N : Int) := by omega
      have hLm : m + (f.ws.length + f.ds.length) ≤ L := hsz
      have HA := Lib.hid hA; have HNk := Lib.hid hNk; have Hrest := Lib.hid hrest; have Hrl := Lib.hid hrl; have Hbk := Lib.hid hbk; have Hlen2 := Lib.hid hlen2; have Htake := Lib.hid htake; have Hm := Lib.hid hm; have HAe := Lib.hid hAe; have HCe := Lib.hid hCe
      clear hA hNk hrest hrl hbk hlen2 htake hm hAe hCe hc0 hwr hum hu hdrop hfit hlenC hsz
      go_wp2
      go_loopw [5, 7] (fun kk i wx => ∃ j : Nat, i = .int .i64 j ∧ j ≤ f.ws.length ∧ kk = .int .i64 ((m : Int) + (j : Int)) ∧ WAt wx (.slice pl L cl) ls ∧ RInv wx b B lim (A ++ ⟨part f rest j 0, .slice aw f.ws.length cw, .slice ad f.ds.length cd⟩ :: C) (.slice (some ⟨g, 0, none⟩) N cv) ∧ Off (fun k => k ∈ blksOf us) w wx) (fun _ i _ => f.ws.length - (intOf i).toNat)
      case atStart => exact ⟨0, rfl, Nat.zero_le _, by simp, hwat, I, hoff⟩
      case round =>
        obtain ⟨j, rfl, hj, rfl, hwat2, I2, hoff2⟩ := hrel
        have S2 := I2.blk
        have s2 := S2.cell
        obtain ⟨g', e, hg2, hc2⟩ := I2.cells HA.out HNk.out
        cases e
        have r4 := hc2 4 _ rfl
        clear hc2
        have hrl := Hrl.out
        by_cases hjl : j < f.ws.length
        · have hjI : (j : Int) < (f.ws.length : Int) := by omega
          have hml : m + j < ls.length := by rw [HLL.out]; omega
          obtain ⟨bl, ol, rfl, q0, q1⟩ := hwat2.word (m + j) hml
          obtain ⟨gw, rfl, hR, hgB, I3, hoff3⟩ := I2.word hjl HFit.out (by omega)
          have hgetr : rest[j]'(by omega) = ls[m + j] := by
            have h1 : rest[j]? = ls[m + j]? := by rw [← Hrest.out, List.getElem?_drop]
            rw [List.getElem?_eq_getElem (by omega), List.getElem?_eq_getElem hml] at h1
            exact Option.some.inj h1
          rw [hgetr] at I3 hoff3
          have hgu : gw ∈ blksOf us := Hbk.out j 0 gw (mem_blks (List.mem_singleton.2 rfl) (.inl rfl))
          have hwat3 := hwat2.off hoff3 (fun x hx e => HAp.out x hx (by rw [e]; exact hgu))
          have hoffT := hoff2.trans hoff3 (T := fun i => i ∈ blksOf us) (fun i h => h) (fun i h => .inl (by rw [h]; exact hgu))
          obtain ⟨u0, hu0⟩ := hR.cell (j * 2) (by omega)
          obtain ⟨u1, hu1⟩ := hR.cell (j * 2 + 1) (by omega)
          have fr := hR.free
          have HI3 := Lib.hid I3; have Hw3 := Lib.hid hwat3; have HoT := Lib.hid hoffT
          have hmjI : (m : Int) + (j : Int) < (L : Int) := by omega
          have hmj0 : (0 : Int) ≤ (m : Int) + (j : Int) := by omega
          have hcast : ((m : Int) + (j : Int)).toNat = m + j := by omega
          clear I3 hwat3 hoffT hoff3 hgetr I2 hoff2 hwat2 hrl
          go_upto_region 12 with fail
          go_still_tail 13, (by kernel_rfl)
          go_wp2
          refine ⟨⟨j + 1, by simp, by omega, by simp [Int.add_assoc], Hw3.out.below (Below.refl _ _).drew (Nat.le_refl _), HI3.out.below (Below.refl _ _).drew, HoT.out.trans (Off.of_below (S := fun _ => False) (Below.refl _ _).drew) (fun i h => h) (fun i h => h.elim)⟩, by simp [intOf]; omega⟩
        · have hjE : j = f.ws.length := by omega
          subst hjE
          clear hrl
          go_wp2
          go_loopw [5, 8] (fun kk i wx => ∃ t : Nat, i = .int .i64 t ∧ t ≤ f.ds.length ∧ kk = .int .i64 ((m : Int) + (f.ws.length : Int) + (t : Int)) ∧ WAt wx (.slice pl L cl) ls ∧ RInv wx b B lim (A ++ ⟨part f rest f.ws.length t, .slice aw f.ws.length cw, .slice ad f.ds.length cd⟩ :: C) (.slice (some ⟨g, 0, none⟩) N cv) ∧ Off (fun k => k ∈ blksOf us) w wx) (fun _ i _ => f.ds.length - (intOf i).toNat)
          case atStart => exact ⟨0, rfl, Nat.zero_le _, by simp, hwat2, I2, hoff2⟩
          case round =>
            obtain ⟨t, rfl, ht, rfl, hwat4, I4, hoff4⟩ := hrel
            have S4 := I4.blk
            have s4 := S4.cell
            obtain ⟨g', e, hg4, hc4⟩ := I4.cells HA.out HNk.out
            cases e
            have r5 := hc4 5 _ rfl
            clear hc4
            have hrl := Hrl.out
            by_cases htl : t < f.ds.length
            · have htI : (t : Int) < (f.ds.length : Int) := by omega
              have hml : m + (f.ws.length + t) < ls.length := by rw [HLL.out]; omega
              obtain ⟨bl, ol, rfl, q0, q1⟩ := hwat4.word (m + (f.ws.length + t)) hml
              obtain ⟨gw, rfl, hR, hgB, I5, hoff5⟩ := I4.done htl HFit.out (by omega)
              have hgetr : rest[f.ws.length + t]'(by omega) = ls[m + (f.ws.length + t)] := by
                have h1 : rest[f.ws.length + t]? = ls[m + (f.ws.length + t)]? := by rw [← Hrest.out, List.getElem?_drop]
                rw [List.getElem?_eq_getElem (by omega), List.getElem?_eq_getElem hml] at h1
                exact Option.some.inj h1
              rw [hgetr] at I5 hoff5
              have hgu : gw ∈ blksOf us := Hbk.out f.ws.length t gw (mem_blks (List.mem_singleton.2 rfl) (.inr rfl))
              have hwat5 := hwat4.off hoff5 (fun x hx e => HAp.out x hx (by rw [e]; exact hgu))
              have hoffT := hoff4.trans hoff5 (T := fun i => i ∈ blksOf us) (fun i h => h) (fun i h => .inl (by rw [h]; exact hgu))
              obtain ⟨u0, hu0⟩ := hR.cell (t * 2) (by omega)
              obtain ⟨u1, hu1⟩ := hR.cell (t * 2 + 1) (by omega)
              have fr := hR.free
              have HI5 := Lib.hid I5; have Hw5 := Lib.hid hwat5; have HoT := Lib.hid hoffT
              have hmjI : (m : Int) + (f.ws.length : Int) + (t : Int) < (L : Int) := by omega
              have hmj0 : (0 : Int) ≤ (m : Int) + (f.ws.length : Int) + (t : Int) := by omega
              have hcast : ((m : Int) + (f.ws.length : Int) + (t : Int)).toNat = m + (f.ws.length + t) := by omega
              clear I5 hwat5 hoffT hoff5 hgetr I4 hoff4 hwat4 hrl
              go_upto_region 17 with fail
              go_still_tail 13, (by kernel_rfl)
              go_wp2
              refine ⟨⟨t + 1, by simp, by omega, by simp [Int.add_assoc], Hw5.out.below (Below.refl _ _).drew (Nat.le_refl _), HI5.out.below (Below.refl _ _).drew, HoT.out.trans (Off.of_below (S := fun _ => False) (Below.refl _ _).drew) (fun i h => h) (fun i h => h.elim)⟩, by simp [intOf]; omega⟩
            · have htE : t = f.ds.length := by omega
              subst htE
              rw [part_end] at I4
              have e1 : (wordsAll (us.take (k + 1))).length = m + (f.ws.length + f.ds.length) := by rw [Hlen2.out, List.length_append, List.length_append, Hm.out]
              have e2 : A ++ ⟨f.turn rest, .slice aw f.ws.length cw, .slice ad f.ds.length cd⟩ :: C = turnRows (us.take (k + 1)) ls ++ us.drop (k + 1) := by
                rw [Htake.out, turnRows_append, Hm.out, Hrest.out, HAe.out, HCe.out]
                simp [turnRows]
              rw [e2] at I4
              have HI4 := Lib.hid I4; have He1 := Lib.hid e1; have Hw4 := Lib.hid hwat4; have Ho4 := Lib.hid hoff4
              clear I4 e1 e2 hwat4 hoff4 hrl
              go_wp2
              go_roundw
              case rel => exact ⟨k + 1, m + (f.ws.length + f.ds.length), by go_num, by omega, by simp [Int.add_assoc], He1.out, Hw4.out, HI4.out, Ho4.out⟩
              case measure => simp [intOf]; omega
    · have hkN : k = N := by omega
      subst hkN
      have e0 : us.take k = us := by rw [← HN.out, List.take_length]
      have e1 : us.drop k = [] := by rw [← HN.out, List.drop_length]
      rw [e0, e1, List.append_nil] at I
      have HI := Lib.hid I; have Hoff := Lib.hid hoff
      obtain ⟨q, hq⟩ : ∃ q, (Value.slice pv k cv) = q := ⟨_, rfl⟩
      clear I hoff hwat e0 e1 hm hq
      go_wp2
      go_ret
      exact ⟨rfl, by rw [HN.out]; exact HI.out, Hoff.out⟩

end Go.Proofs.Ytmnadlgglmhfhaa
