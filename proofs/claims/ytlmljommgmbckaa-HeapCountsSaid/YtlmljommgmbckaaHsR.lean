/- What the shape of some words is like: plain laws; the contract of Reach. -/
import Derived.Test.YtlmljommgmbckaaHsL
namespace Go.Proofs.Ytlmljommgmbckaa
open Go.RowKit
set_option linter.unusedSimpArgs false

theorem allS_nums (H : HS) : ∀ (xs : List Wd) (l : List Int), ∀ y ∈ (allS H l xs).1, y.1 = 5 → 1 ≤ y.2 ∧ y.2 ≤ ((allS H l xs).2.length : Int)
  | [], _, y, hy, _ => by simp [allS] at hy
  | x :: xs, l, y, hy, h5 => by
    obtain ⟨r, hr⟩ := allS_grows H xs (wordS H l x).2
    simp only [allS, List.mem_cons] at hy
    rcases hy with rfl | hy
    · show 1 ≤ (wordS H l x).1.2 ∧ (wordS H l x).1.2 ≤ ((allS H (wordS H l x).2 xs).2.length : Int)
      rw [hr, List.length_append]
      unfold wordS at h5 ⊢
      split
      · split
        · rename_i hin
          have := List.idxOf_lt_length_of_mem hin
          simp only
          omega
        · simp only [List.length_append, List.length_singleton]
          omega
      · rename_i hne
        rw [if_neg hne] at h5
        exact absurd h5 hne
    · exact allS_nums H xs _ y hy h5
theorem bfs_nums (H : HS) (rs : List Wd) : ∀ n, ∀ o ∈ (bfsN H rs n).2, ∀ y ∈ o.ws, y.1 = 5 → 1 ≤ y.2 ∧ y.2 ≤ ((bfsN H rs n).1.length : Int)
  | 0, o, ho, y, hy, h5 => by
    simp only [bfsN, List.mem_singleton] at ho
    subst ho
    exact allS_nums H rs [] y hy h5
  | n + 1, o, ho, y, hy, h5 => by
    rw [bfsN] at ho ⊢
    split at ho
    · rename_i a ha
      obtain ⟨r, hr⟩ := allS_grows H (objWs H a) (bfsN H rs n).1
      simp only [List.mem_append, List.mem_singleton] at ho ⊢
      rcases ho with ho | rfl
      · have := bfs_nums H rs n o ho y hy h5
        rw [hr, List.length_append]
        omega
      · exact allS_nums H _ _ y hy h5
    · exact bfs_nums H rs n o ho y hy h5
theorem bfs_kinds {H : HS} {gl : List Wd} (S : Sound H gl) (hN : H.top ≤ H.ws.length) {rs : List Wd} (h : ∀ x ∈ rs, standsK H x.1 x.2 = true) : ∀ n, ∀ o ∈ (bfsN H rs n).2, o.k ≠ 7
  | 0, o, ho => by
    simp only [bfsN, List.mem_singleton] at ho
    subst ho
    show (0 : Int) ≠ 7
    omega
  | n + 1, o, ho => by
    rw [bfsN] at ho
    split at ho
    · rename_i a ha
      simp only [List.mem_append, List.mem_singleton] at ho
      rcases ho with ho | rfl
      · exact bfs_kinds S hN h n o ho
      · exact ((bfs_fine S hN h n).2 a (List.mem_of_getElem? ha)).2
    · exact bfs_kinds S hN h n o ho
theorem bfs_wlen (H : HS) (rs : List Wd) (B : Nat) (h1 : rs.length ≤ B) (h2 : H.ws.length ≤ B) : ∀ n, ∀ o ∈ (bfsN H rs n).2, o.ws.length ≤ B
  | 0, o, ho => by
    simp only [bfsN, List.mem_singleton] at ho
    subst ho
    simp only [allS_len]
    exact h1
  | n + 1, o, ho => by
    rw [bfsN] at ho
    split at ho
    · rename_i a ha
      simp only [List.mem_append, List.mem_singleton] at ho
      rcases ho with ho | rfl
      · exact bfs_wlen H rs B h1 h2 n o ho
      · simp only [allS_len]
        unfold objWs
        rw [List.length_take, List.length_drop]
        omega
    · exact bfs_wlen H rs B h1 h2 n o ho
theorem bfs_count (H : HS) (rs : List Wd) : ∀ n, (bfsN H rs n).2.length = n + 1 ∨ (bfsN H rs n).1.length < n
  | 0 => .inl rfl
  | n + 1 => by
    rw [bfsN]
    split
    · rename_i a ha
      rcases bfs_count H rs n with q | q
      · left; simp [q]
      · rw [List.getElem?_eq_none (by omega)] at ha; cases ha
    · rename_i ha
      right
      have := List.getElem?_eq_none_iff.1 ha
      omega
theorem bfs_stop (H : HS) (rs : List Wd) {n : Nat} (h : (bfsN H rs n).1.length = n) : ∀ d, bfsN H rs (n + d) = bfsN H rs n
  | 0 => rfl
  | d + 1 => by
    have ih := bfs_stop H rs h d
    rw [show n + (d + 1) = (n + d) + 1 by omega, bfsN, ih, List.getElem?_eq_none (by omega)]
theorem bfs_uniq (H : HS) (rs : List Wd) {n m : Nat} (h : (bfsN H rs n).1.length = n) (k : (bfsN H rs m).1.length = m) : n = m := by
  rcases Nat.le_total n m with q | q
  · have := bfs_stop H rs h (m - n)
    rw [show n + (m - n) = m by omega] at this
    rw [this, h] at k
    exact k
  · have := bfs_stop H rs k (n - m)
    rw [show m + (n - m) = n by omega] at this
    rw [this, k] at h
    exact h.symm

/-- How many words objects have, heads and all. -/
def cntO (os : List ObjS) : Int := (os.map fun o => 1 + (o.ws.length : Int)).sum
theorem cntO_snoc (os : List ObjS) (o : ObjS) : cntO (os ++ [o]) = cntO os + (1 + (o.ws.length : Int)) := by
  unfold cntO
  rw [List.map_append, List.sum_append]
  simp
theorem cntO_bound (B : Nat) : ∀ (os : List ObjS), (∀ o ∈ os, o.ws.length ≤ B) → 0 ≤ cntO os ∧ cntO os ≤ (os.length * (B + 1) : Nat)
  | [], _ => by simp [cntO]
  | o :: os, h => by
    have ih := cntO_bound B os (fun x hx => h x (List.mem_cons_of_mem _ hx))
    have h1 := h o List.mem_cons_self
    have e : cntO (o :: os) = 1 + (o.ws.length : Int) + cntO os := by simp [cntO]
    rw [e, List.length_cons, Nat.add_mul]
    omega
/-- One of some objects in memory. -/
theorem ObjsAt.get {W : World} {base : Nat} {p : Option Addr} {n c : Nat} {xs : List (ObjS × Value)} (h : ObjsAt W base (.slice p n c) xs) (i : Nat) (x : ObjS × Value) (hx : xs[i]? = some x) :
    ∃ b o, p = some ⟨b, o, none⟩ ∧ W.cell? ⟨b, o + i * 3, none⟩ = some (.int .i64 x.1.k) ∧ W.cell? ⟨b, o + i * 3 + 1, none⟩ = some (.int .i64 x.1.i) ∧ ∃ pw cw, W.cell? ⟨b, o + i * 3 + 2, none⟩ = some (.slice pw x.1.ws.length cw) ∧ WAt W (.slice pw x.1.ws.length cw) x.1.ws := by
  obtain ⟨a, cap, e, _, hc, ho⟩ := h
  simp only [Value.slice.injEq] at e
  obtain ⟨rfl, _, rfl⟩ := e
  have hl : 0 < xs.length := by
    rcases Nat.eq_zero_or_pos xs.length with q | q
    · rw [List.eq_nil_of_length_eq_zero q] at hx; simp at hx
    · exact q
  obtain ⟨b, o, rfl, _, _, h3⟩ := hc hl
  obtain ⟨q1, q2, q3⟩ := h3 i x hx
  have hw := (ho x (List.mem_of_getElem? hx)).1
  obtain ⟨aw, cw, ev, hcw⟩ := hw
  rw [ev] at q3
  exact ⟨b, o, rfl, q1, q2, aw, cw, q3, ⟨aw, cw, rfl, hcw⟩⟩
theorem ObjsAt.cap {W : World} {base : Nat} {p : Option Addr} {n c : Nat} {xs : List (ObjS × Value)} (h : ObjsAt W base (.slice p n c) xs) : xs.length = n ∧ n ≤ c := by
  obtain ⟨a, cap, e, hcap, _⟩ := h
  simp only [Value.slice.injEq] at e
  obtain ⟨_, rfl, rfl⟩ := e
  exact ⟨rfl, hcap⟩


set_option maxRecDepth 100000 in
set_option maxHeartbeats 4000000 in
theorem reach_u {w : World} {b : Nat} {L : HL} {gb : Nat} {H : HS} {gl : List Wd} (G : GHeap w b L gb H gl) (p : Option Addr) (m c : Nat) (us : List Wd) (hm : us.length = m) (hu : WAt w (.slice p m c) us) (hr : Ranged us) (hv : p = none → c = 0) (hl : m ≤ 1000000) (hng : H.ng ≤ 1000000) :
    Calls Try.prog 28 #[.pointer (some ⟨b, 0, none⟩), .slice p m c] w fun e w' => ∃ (k r : Int), e = .returned (.tuple #[.int .i64 k, .int .i64 r]) ∧ Below w.heap.size w w' ∧
      ((r = 13 ∧ k = 0 ∧ us.all (fun x => standsK H x.1 x.2) = false) ∨ (r = 0 ∧ (∀ x ∈ us, standsK H x.1 x.2 = true) ∧ ∃ n, k = cntO ((bfsN H (us ++ gl) n).2.drop 1) ∧ (bfsN H (us ++ gl) n).1.length = n)) := by
  have ks := shape_u G p m c us hm hu hr hv hl hng
  have KS := Lib.hid ks
  have hwl := G.inv.len; have hwn := G.inv.nur; have hwo := G.inv.old; have htp := G.inv.top
  have hgn := G.snd.gn
  have hB1 : (us ++ gl).length ≤ 12582912 := by rw [List.length_append]; omega
  have hB2 : H.ws.length ≤ 12582912 := by omega
  have HG := Lib.hid G
  clear ks hu hr hv hm G hwl hwn hwo hgn
  go_enter Try.func28, Try.ntmps28
  go_upto_region 2 with (go_at_call 27; with_reducible refine KS.out.mono ?_; rintro e w1 ⟨p1, n1, c1, r1, rfl, hb1, D1⟩)
  rcases D1 with ⟨rfl, _, hf⟩ | ⟨rfl, hst, xs, N, rfl, O, hxs, hN⟩
  · have HF := Lib.hid hf
    have HB := Lib.hid hb1
    clear hf hb1
    go_wp2
    exact bodyPost_ret (v := .tuple #[.int .i64 0, .int .i64 13]) (by simp [results, Try.results28, go_sem]) rfl ⟨0, 13, rfl, HB.out, .inl ⟨rfl, rfl, HF.out⟩⟩
  · have hcp := O.cap.2
    have hcnt := bfs_count H (us ++ gl) N
    have hlx : xs.length = N + 1 := by
      have h1 : xs.length = (bfsN H (us ++ gl) N).2.length := by rw [← hxs, List.length_map]
      rw [h1]
      rcases hcnt with q | q
      · exact q
      · omega
    have hNt : N ≤ H.top := by
      have := fine_len HG.out.snd (bfs_fine HG.out.snd (by have := HG.out.inv.len; omega) (rs := us ++ gl) (fun x hx => by
        rcases List.mem_append.1 hx with q | q
        · exact hst x q
        · exact HG.out.snd.gs x q) N)
      omega
    have hwb := bfs_wlen H (us ++ gl) 12582912 hB1 hB2 N
    have htn := HG.out.inv.top; have hnr := HG.out.inv.nur
    obtain ⟨M, hM⟩ : ∃ M, xs.length = M := ⟨_, rfl⟩
    rw [hM] at hcp hlx O ⊢
    have hM1 : 1 ≤ M := by omega
    have hMb : M ≤ 4194305 := by omega
    have HO := Lib.hid O; have HXs := Lib.hid hxs; have HWb := Lib.hid hwb; have HM := Lib.hid hM; have HN := Lib.hid hN; have HSt := Lib.hid hst; have HB := Lib.hid hb1
    clear O hxs hwb hM hN hst hb1 hcnt hlx hNt
    have hx0 : 0 < xs.length := by rw [HM.out]; omega
    obtain ⟨x0, hx0'⟩ : ∃ x, xs[0]? = some x := ⟨xs[0], List.getElem?_eq_getElem hx0⟩
    obtain ⟨bo, oo, rfl, _⟩ := HO.out.get 0 x0 hx0'
    have hmM : ((M : Int) - 1) = ((M - 1 : Nat) : Int) := by omega
    clear hx0 hx0'
    obtain ⟨M1, hM1'⟩ : ∃ n, M = n + 1 := ⟨M - 1, by omega⟩
    subst hM1'
    have hres : ∀ (W : World), Below w1.heap.size w1 W → (∃ (k r : Int), Ending.returned (.tuple #[.int .i64 (cntO (((xs.map Prod.fst).drop 1).take M1)), .int .i64 0]) = .returned (.tuple #[.int .i64 k, .int .i64 r]) ∧ Below w.heap.size w W ∧
      ((r = 13 ∧ k = 0 ∧ us.all (fun x => standsK H x.1 x.2) = false) ∨ (r = 0 ∧ (∀ x ∈ us, standsK H x.1 x.2 = true) ∧ ∃ n, k = cntO ((bfsN H (us ++ gl) n).2.drop 1) ∧ (bfsN H (us ++ gl) n).1.length = n))) := by
      intro W hW
      refine ⟨_, 0, rfl, HB.out.trans (hW.mono HB.out.size), .inr ⟨rfl, HSt.out, N, ?_, HN.out⟩⟩
      rw [← HXs.out, List.take_of_length_le (by rw [List.length_drop, List.length_map, HM.out]; omega)]
    have HRes := Lib.hid hres
    clear hres hmM hM1
    by_cases hc1 : c1 = 1
    · subst hc1
      have hM0 : M1 = 0 := by omega
      subst hM0
      go_wp2
      refine wp_loop_rounds 1 ?_
      rw [rounds_succ]
      go_wp2
      refine bodyPost_ret (v := .tuple #[.int .i64 0, .int .i64 0]) (by simp [results, Try.results28, go_sem]) rfl ?_
      have := HRes.out _ (Below.refl _ _)
      simpa [cntO] using this
    · go_wp2
      go_loopw [8, 23] (fun s i wr => ∃ k : Nat, i = .int .i64 k ∧ k ≤ M1 ∧ s = .int .i64 (cntO (((xs.map Prod.fst).drop 1).take k)) ∧ Below w1.heap.size w1 wr) (fun _ i _ => M1 - (intOf i).toNat)
      case atStart => exact ⟨0, rfl, Nat.zero_le _, by simp [cntO], Below.refl _ _⟩
      case round =>
        obtain ⟨k, rfl, hk, rfl, hb⟩ := hrel
        have HBr := Lib.hid hb
        by_cases hlt : k < M1
        · have hk1 : k + 1 < xs.length := by rw [HM.out]; omega
          obtain ⟨x, hx⟩ : ∃ x, xs[k + 1]? = some x := ⟨xs[k + 1], List.getElem?_eq_getElem hk1⟩
          obtain ⟨bo', oo', e, u0, u1, pw, cw, u2, _⟩ := (HO.out.below hb).get (k + 1) x hx
          simp only [Option.some.injEq, Addr.mk.injEq, and_true] at e
          obtain ⟨rfl, rfl⟩ := e
          rw [show oo + (k + 1) * 3 = oo + 3 + k * 3 by omega] at u0 u1 u2
          have htk : ((xs.map Prod.fst).drop 1).take (k + 1) = ((xs.map Prod.fst).drop 1).take k ++ [x.1] := by
            have h1 : k < ((xs.map Prod.fst).drop 1).length := by rw [List.length_drop, List.length_map]; omega
            rw [List.take_succ_eq_append_getElem h1]
            congr 1
            have h2 : ((xs.map Prod.fst).drop 1)[k]? = some x.1 := by rw [List.getElem?_drop, List.getElem?_map, Nat.add_comm, hx]; rfl
            rw [List.getElem?_eq_getElem h1] at h2
            simpa using h2
          have hbnd := cntO_bound 12582912 (((xs.map Prod.fst).drop 1).take (k + 1)) (fun o ho => by
            have := List.mem_of_mem_drop (List.mem_of_mem_take ho)
            rw [HXs.out] at this
            exact HWb.out o this)
          have hbl : ((((xs.map Prod.fst).drop 1).take (k + 1)).length * (12582912 + 1) : Nat) ≤ 4194306 * 12582913 := by
            rw [List.length_take, List.length_drop, List.length_map, HM.out]
            exact Nat.mul_le_mul_right _ (by omega)
          rw [htk, cntO_snoc] at hbnd
          have hb0 := cntO_bound 12582912 (((xs.map Prod.fst).drop 1).take k) (fun o ho => by
            have := List.mem_of_mem_drop (List.mem_of_mem_take ho)
            rw [HXs.out] at this
            exact HWb.out o this)
          have hwx : x.1.ws.length ≤ 12582912 := HWb.out x.1 (by rw [← HXs.out]; exact List.mem_map_of_mem (List.mem_of_getElem? hx))
          obtain ⟨C, hC⟩ : ∃ C, cntO (((xs.map Prod.fst).drop 1).take k) = C := ⟨_, rfl⟩
          have htk2 : cntO (((xs.map Prod.fst).drop 1).take (k + 1)) = C + (1 + (x.1.ws.length : Int)) := by rw [htk, cntO_snoc, hC]
          rw [hC] at hbnd hb0 ⊢
          obtain ⟨lw, hlw⟩ : ∃ l, x.1.ws.length = l := ⟨_, rfl⟩
          rw [hlw] at u2 hbnd htk2 hwx
          rw [htk] at hbl
          have hb2 := hbnd.2
          have hltI : (k : Int) < (M1 : Int) := by omega
          have HTk := Lib.hid htk2
          have hw1 : IntKind.i64.wrap (1 + (lw : Int)) = 1 + (lw : Int) := IntWalk.i64_in _ (by omega)
          have hw2 : IntKind.i64.wrap (C + (1 + (lw : Int))) = C + (1 + (lw : Int)) := IntWalk.i64_in _ (by omega)
          clear hx htk hbnd hbl hb0 hC htk2 hlw hb hb2 hk1
          go_wp2
          go_roundw
          case rel => exact ⟨k + 1, by go_num, by omega, by rw [HTk.out], HBr.out.alloc HBr.out.size _⟩
          case measure => simp [intOf]; omega
        · have hkM : k = M1 := by omega
          subst hkM
          go_wp2
          refine bodyPost_ret (v := .tuple #[.int .i64 (cntO (((xs.map Prod.fst).drop 1).take k)), .int .i64 0]) (by simp [results, Try.results28, go_sem]) rfl ?_
          exact HRes.out _ HBr.out

end Go.Proofs.Ytlmljommgmbckaa
