/- player.read at any line: it is just the fine play whose line it is. -/
import Derived.Test.YtbjlnllbcgghlaaDoorPyI
namespace Go.Proofs.YtbjlnllbcgghlaaDoor
open Go.RowKit Go.Shelf
set_option linter.unusedSimpArgs false
set_option linter.unusedVariables false

/-- The two blocks of read: what it hands back, and the play. -/
structure RSt (w wr : World) (b : Nat) (K N : Int) (v : Value) (bs : List UInt8) : Prop where
  bel : Below w.heap.size w wr
  res : Blk wr b #[.int .i64 0, .int .i64 0, .slice none 0 0]
  blk : Blk wr (b + 1) #[.int .i64 K, .int .i64 N, v]
  bw : w.heap.size = b
  own : UOwn wr (b + 3) v bs
  len : bs.length ≤ 1000001
theorem RSt.below {w wr wr' : World} {b : Nat} {K N : Int} {v : Value} {bs : List UInt8} (h : RSt w wr b K N v bs) (hb : Below wr.heap.size wr wr') : RSt w wr' b K N v bs :=
  ⟨chain h.bel hb, h.res.below hb h.res.lt, h.blk.below hb h.blk.lt, h.bw, h.own.below hb, h.len⟩
theorem RSt.kind {w wr : World} {b : Nat} {K N : Int} {v : Value} {bs : List UInt8} (h : RSt w wr b K N v bs) (K2 : Int) : RSt w (wr.setCell ⟨b + 1, 0, none⟩ (.int .i64 K2)) b K2 N v bs :=
  ⟨below_grown_new h.bel (grown_set _ _ _ _) (by have := h.bw; omega), h.res.other _ _ (by simp), h.blk.set 0 _ (by simp), h.bw, h.own.set (by omega) _ _, h.len⟩
theorem RSt.num {w wr : World} {b : Nat} {K N : Int} {v : Value} {bs : List UInt8} (h : RSt w wr b K N v bs) (N2 : Int) : RSt w (wr.setCell ⟨b + 1, 1, none⟩ (.int .i64 N2)) b K N2 v bs :=
  ⟨below_grown_new h.bel (grown_set _ _ _ _) (by have := h.bw; omega), h.res.other _ _ (by simp), h.blk.set 1 _ (by simp), h.bw, h.own.set (by omega) _ _, h.len⟩
/-- What read's answer says. -/
def ReadSays (s : ByteArray) (w w' : World) (v : Value) (bb : Bool) : Prop :=
  (∃ K N a n c, v = .agg #[.int .i64 K, .int .i64 N, .slice a n c]) ∧ Below w.heap.size w w' ∧ (bb = true → ∃ x, fineK x = true ∧ s = mkW (lineK x) ∧ x.bytes.length ≤ 1000001 ∧ Held w.heap.size w'.heap.size w' (fun W => PlIs W v x)) ∧ (bb = false → ∀ x, fineK x = true → s ≠ mkW (lineK x))
theorem RSt.fin {w wr : World} {b : Nat} {K N : Int} {v : Value} {bs : List UInt8} (h : RSt w wr b K N v bs) (x0 x1 x2 : Value) :
    Below w.heap.size w (((wr.setCell ⟨b, 0, none⟩ x0).setCell ⟨b, 1, none⟩ x1).setCell ⟨b, 2, none⟩ x2) ∧ Held w.heap.size (((wr.setCell ⟨b, 0, none⟩ x0).setCell ⟨b, 1, none⟩ x1).setCell ⟨b, 2, none⟩ x2).heap.size (((wr.setCell ⟨b, 0, none⟩ x0).setCell ⟨b, 1, none⟩ x1).setCell ⟨b, 2, none⟩ x2) (fun W => PlIs W (.agg #[.int .i64 K, .int .i64 N, v]) ⟨K, N, bs⟩) ∧
    (wr.setCell ⟨b, 0, none⟩ x0).cell? ⟨b, 0, none⟩ = some x0 ∧ ((wr.setCell ⟨b, 0, none⟩ x0).setCell ⟨b, 1, none⟩ x1).cell? ⟨b, 1, none⟩ = some x1 ∧ (((wr.setCell ⟨b, 0, none⟩ x0).setCell ⟨b, 1, none⟩ x1).setCell ⟨b, 2, none⟩ x2).cell? ⟨b, 2, none⟩ = some x2 := by
  have hw := h.bw
  refine ⟨below_grown_new h.bel (grown_trans (grown_trans (grown_set _ _ _ _) (grown_set _ _ _ _)) (grown_set _ _ _ _)) (by omega), ?_, (h.res.set 0 x0 (by simp)).cell 0, ((h.res.set 0 x0 (by simp)).set 1 x1 (by simp)).cell 1, (((h.res.set 0 x0 (by simp)).set 1 x1 (by simp)).set 2 x2 (by simp)).cell 2⟩
  have o := ((h.own.set (b := b) (by omega) 0 x0).set (b := b) (by omega) 1 x1).set (b := b) (by omega) 2 x2
  exact (o.held.wide (by omega) (Nat.le_refl _) (Nat.le_refl _)).mp fun W hW => ⟨v, rfl, hW⟩
theorem RSt.app {w w5 W' : World} {b : Nat} {K N : Int} {v v' : Value} {bs bs' : List UInt8} (h : RSt w w5 b K N v bs) (ho : UOwn W' (b + 3) v' bs') (hb : Below (b + 3) w5 W') (hl : bs'.length ≤ 1000001) : RSt w (W'.setCell ⟨b + 1, 2, none⟩ v') b K N v' bs' := by
  have hw := h.bw
  have h1 : Below w.heap.size w W' := h.bel.trans (hb.mono (by omega))
  exact ⟨below_grown_new h1 (grown_set _ _ _ _) (by omega), (h.res.below hb (by omega)).other _ _ (by simp), (h.blk.below hb (by omega)).set 2 _ (by simp), hw, ho.set (by omega) _ _, hl⟩
abbrev FeedR (w : World) (b M : Nat) (rest : List ByteArray) (i : Value) (wr : World) : Prop := ∃ (k : Nat) (v : Value) (bs : List UInt8), i = .int .i64 (k : Int) ∧ k ≤ M ∧ Hid (RSt w wr b 1 0 v bs) ∧ Hid (bs.length = k) ∧ Hid (∀ (j : Nat) (c : UInt8), j < k → rest[j]? = some (mkW (hexK c)) → bs[j]? = some c) ∧ Hid (Blk wr (b + 2) (((⟨#[102, 101, 101, 100]⟩ : ByteArray) :: rest).map Value.string).toArray)
theorem bytes_eq {x s : ByteArray} (h : (x.toList == s.toList) = true) : x = s := by
  by_cases e : x = s
  · exact e
  · rw [toList_ne e] at h; cases h
set_option maxRecDepth 100000 in
set_option maxHeartbeats 8000000 in
theorem read_any (s : ByteArray) (w : World) (hs : s.size ≤ 1000000) (hL : LayP w) :
    Calls Tryd.prog 23 #[.string s] w fun e w' => ∃ v bb, e = .returned (.tuple #[v, .bool bb]) ∧ ReadSays s w w' v bb := by
  obtain ⟨b, hb⟩ : ∃ b, w.heap.size = b := ⟨_, rfl⟩
  have l1 : Below w.heap.size w (w.alloc (.cells #[.int .i64 0, .int .i64 0, .slice none 0 0] 34)) := (Below.refl _ w).alloc (Nat.le_refl _) _
  have R1 := Blk.new w #[.int .i64 0, .int .i64 0, .slice none 0 0] 34
  have z1 : (w.alloc (.cells #[.int .i64 0, .int .i64 0, .slice none 0 0] 34)).heap.size = b + 1 := by simp [hb]
  rw [hb] at R1
  go_enter Tryd.func23, Tryd.ntmps23
  go_upto_region 1 with fail
  generalize w.alloc (.cells #[.int .i64 0, .int .i64 0, .slice none 0 0] 34) = W1 at l1 R1 z1 ⊢
  have l2 : Below W1.heap.size W1 (W1.alloc (.cells #[.int .i64 0, .int .i64 0, .slice none 0 0] 34)) := (Below.refl _ W1).alloc (Nat.le_refl _) _
  have R2 := Blk.new W1 #[.int .i64 0, .int .i64 0, .slice none 0 0] 34
  have z2 : (W1.alloc (.cells #[.int .i64 0, .int .i64 0, .slice none 0 0] 34)).heap.size = b + 2 := by simp [z1]
  rw [z1] at R2
  go_upto_region 2 with fail
  generalize W1.alloc (.cells #[.int .i64 0, .int .i64 0, .slice none 0 0] 34) = W2 at l2 R2 z2 ⊢
  have R1' := R1.below l2 R1.lt
  have l12 := chain l1 l2
  have KS := Lib.hid (split_any s W2 hs (hL.on l12))
  have St2 := Lib.hid (show RSt w W2 b 0 0 (.slice none 0 0) [] from ⟨l12, R1', R2, hb, UOwn.nil _ _, by simp⟩)
  have HL := Lib.hid (fun (W : World) (hB : Below w.heap.size w W) => hL.on hB)
  rw [z2] at KS
  have Hz1 := Lib.hid z1
  have Hz2 := Lib.hid z2
  have Hb := Lib.hid hb
  clear R1 R2 R1' l1 l2 l12 hL z1 z2 hb
  go_upto_region 3 with (go_at_call 33; refine KS.out.mono ?_; rintro e w3 ⟨ws, h1, h2, h3, h4, rfl, hq, b3⟩)
  obtain ⟨w0, rest, rfl⟩ : ∃ w0 rest, ws = w0 :: rest := by
    cases ws with
    | nil => simp at h1
    | cons a l => exact ⟨a, l, rfl⟩
  obtain ⟨M, hM⟩ : ∃ M, rest.length = M := ⟨_, rfl⟩
  rw [List.length_cons, hM]
  rw [List.length_cons, hM] at h2
  have h2 := Lib.hid h2
  have HM := Lib.hid hM
  have St3 := Lib.hid (St2.out.below (by rw [Hz2.out]; exact b3))
  have Hq := Lib.hid hq
  have HW := Lib.hid h4
  have H3 := Lib.hid h3
  have q0 : w3.cell? ⟨b + 2, 0, none⟩ = _ := hq.cell 0
  simp only [List.map_cons, List.getElem?_toArray, List.getElem?_cons_zero, List.getElem?_cons_succ] at q0
  have H2 := h2
  clear h1 h2 h3 h4 hq hM b3
  go_upto_block 0 with fail
  go_cut [] (fun wx => ∃ K N v bs, RSt w wx b K N v bs ∧ ∀ x, fineK x = true → s = mkW (lineK x) → x = ⟨K, N, bs⟩)
  case first =>
    by_cases h0 : w0 = ⟨#[102, 101, 101, 100]⟩
    · subst h0
      have b0 := St3.out.blk.cell 0
      have f0 := St3.out.blk.free 0
      simp only [List.getElem?_toArray, List.getElem?_cons_zero, List.getElem?_cons_succ] at b0
      go_upto_block 1 with fail
      have SK := St3.out.kind 1
      have QK := Hq.out.other ⟨b + 1, 0, none⟩ (.int .i64 1) (by simp)
      generalize w3.setCell ⟨b + 1, 0, none⟩ (.int .i64 1) = W4 at SK QK ⊢
      have SK2 := Lib.hid SK
      have QK2 := Lib.hid QK
      clear b0 f0 q0 SK QK
      have SK := SK2
      have QK := QK2
      clear SK2 QK2
      go_wp2_with fail
      · subst h
        go_loopw [7, 8, 9, 23] (fun _ _ _ i wr => i = .int .i64 0 ∧ wr = W4) (fun _ _ _ _ _ => 0)
        case atStart => exact ⟨rfl, rfl⟩
        case round =>
          obtain ⟨rfl, rfl⟩ := hrel
          go_wp2
          go_meet
          refine ⟨1, 0, _, [], SK.out, fun y hf hy => ?_⟩
          obtain ⟨e1, e2⟩ := play_feed hf (mkW_inj (List.cons.inj (ws_of HW.out hf hy)).1).symm
          have e5 := (List.cons.inj (ws_of HW.out hf hy)).2
          have h0 : y.bytes.length = 0 := by
            have := congrArg List.length e5
            rw [HM.out, e2] at this
            simpa using this.symm
          rw [e1, List.length_eq_zero_iff.1 h0]
      · go_loopw [7, 8, 9, 23] (fun _ _ _ i wr => FeedR w b M rest i wr) (fun _ _ _ i _ => M - (intOf i).toNat)
        case atStart => exact ⟨0, _, [], rfl, Nat.zero_le _, SK, Lib.hid rfl, Lib.hid (fun j c hj => absurd hj (Nat.not_lt_zero j)), QK⟩
        case round =>
          obtain ⟨k, v, bs, rfl, hk, hS, hbl, hC, hq⟩ := hrel
          obtain ⟨a, c, rfl⟩ := hS.out.own.shape
          obtain ⟨nb, hnb⟩ : ∃ nb, bs.length = nb := ⟨_, rfl⟩
          have HNB := Lib.hid hnb
          rw [hnb] at hS
          clear hnb
          by_cases hlt : k < M
          · have hlt2 : decide ((k : Int) < (M : Int)) = true := by simp; omega
            have hlt3 : decide (k < M) = true := by simp; omega
            have hi0 : (0 : Int) ≤ (k : Int) := by omega
            obtain ⟨x, hx⟩ : ∃ x, rest[k]? = some x := ⟨_, List.getElem?_eq_getElem (by rw [HM.out]; exact hlt)⟩
            have q1 : wr.cell? ⟨b + 2, 1 + k, none⟩ = some (.string x) := by
              rw [hq.out.cell (1 + k), Nat.add_comm 1 k]
              simp [hx]
            have KP := Lib.hid (pu_u x wr (by have := H3.out x (List.mem_cons_of_mem _ (List.mem_of_getElem? hx)); omega) (HL.out _ hS.out.bel))
            have HX := Lib.hid hx
            clear hx
            go_upto_region 10 with (go_at_call 34; refine KP.out.mono ?_; rintro e w5 ⟨⟨n, ev, n0, n1, hev, hn, rfl⟩, b5⟩)
            have S5 := Lib.hid (hS.out.below b5)
            have Q5 := Lib.hid (hq.out.below b5 hq.out.lt)
            have CN := Lib.hid hn
            clear hn b5 q1 KP
            have c0 := S5.out.blk.cell 0
            have c1 := S5.out.blk.cell 1
            have c2 := S5.out.blk.cell 2
            simp only [List.getElem?_toArray, List.getElem?_cons_zero, List.getElem?_cons_succ] at c0 c1 c2
            rcases hev with rfl | ⟨et, ep, rfl⟩
            · obtain ⟨v', W', hrun, hown, hbel⟩ := S5.out.own.one n n0 n1 (by have := hbl.out; have := H2.out; omega) (by have := Q5.out.lt; omega)
              obtain ⟨a', m', c', rfl⟩ : ∃ a m c, v' = .slice a m c := by
                obtain ⟨a, c, e⟩ := hown.shape
                exact ⟨a, _, c, e⟩
              have f2 := (S5.out.blk.below hbel (by omega)).free 2
              have d2 := (S5.out.blk.below hbel (by omega)).cell 2
              simp only [List.getElem?_toArray, List.getElem?_cons_zero, List.getElem?_cons_succ] at d2
              have hw8 : IntKind.u8.wrap n = n := IntWalk.u8_in _ (by omega)
              have S6 := Lib.hid (S5.out.app hown hbel (by rw [List.length_append]; have := hbl.out; have := H2.out; simp; omega))
              have Q6 := Lib.hid ((Q5.out.below hbel (by omega)).other ⟨b + 1, 2, none⟩ (.slice a' m' c') (by simp))
              clear c0 c1 hown hbel
              go_wp2_with (at_builtin; refine wpList_append_run rfl _ _ _ _ rfl _ _ _ _ rfl rfl hrun ?_)
              go_roundw
              case measure => simp [intOf]; omega
              case rel => exact ⟨k + 1, _, bs ++ [UInt8.ofNat n.toNat], by go_num, by omega, S6, Lib.hid (by rw [List.length_append, hbl.out]; rfl), Lib.hid (by
                intro j d hj hd
                rcases Nat.lt_or_ge j k with h | h
                · rw [List.getElem?_append_left (by rw [hbl.out]; exact h)]
                  exact hC.out j d h hd
                · obtain rfl : j = k := by omega
                  rw [HX.out] at hd
                  have e := (CN.out d (Option.some.inj hd)).1
                  rw [List.getElem?_append_right (by rw [hbl.out]; exact Nat.le_refl _), hbl.out, Nat.sub_self, e]
                  simp), Q6⟩
            · have a0 := S5.out.res.cell 0
              have a1 := S5.out.res.cell 1
              have a2 := S5.out.res.cell 2
              have g0 := S5.out.res.free 0
              have g1 := S5.out.res.free 1
              have g2 := S5.out.res.free 2
              simp only [List.getElem?_toArray, List.getElem?_cons_zero, List.getElem?_cons_succ] at a0 a1 a2
              go_wp2
              obtain ⟨hfin1, hfin2, hc0, hc1, hc2⟩ := S5.out.fin (.int .i64 1) (.int .i64 0) (.slice a nb c)
              refine bodyPost_ret (v := .tuple #[.agg #[.int .i64 1, .int .i64 0, .slice a nb c], .bool false]) (by simp [results, Tryd.results23, go_sem, hc0, hc1, hc2]) rfl ?_
              refine ⟨_, _, rfl, ⟨_, _, _, _, _, rfl⟩, hfin1, (fun h => by cases h), fun _ y hf hy => ?_⟩
              obtain ⟨e1, e2⟩ := play_feed hf (mkW_inj (List.cons.inj (ws_of HW.out hf hy)).1).symm
              have e5 := (List.cons.inj (ws_of HW.out hf hy)).2
              rw [e2] at e5
              have hxx := HX.out
              rw [e5, List.map_map, List.getElem?_map] at hxx
              rcases hyc : y.bytes[k]? with _ | d
              · rw [hyc] at hxx; cases hxx
              · rw [hyc] at hxx
                have := (CN.out d (Option.some.inj hxx).symm).2
                cases this
          · have hlt2 : decide ((k : Int) < (M : Int)) = false := by simp; omega
            have hlt3 : decide (k < M) = false := by simp; omega
            obtain rfl : M = k := by omega
            go_wp2
            go_meet
            refine ⟨1, 0, _, bs, hS.out, fun y hf hy => ?_⟩
            obtain ⟨e1, e2⟩ := play_feed hf (mkW_inj (List.cons.inj (ws_of HW.out hf hy)).1).symm
            have e5 := (List.cons.inj (ws_of HW.out hf hy)).2
            rw [e2] at e5
            rw [e1]
            congr 1
            refine List.ext_getElem? fun j => ?_
            rcases hyc : y.bytes[j]? with _ | d
            · have hl : y.bytes.length ≤ j := List.getElem?_eq_none_iff.1 hyc
              have := congrArg List.length e5
              rw [HM.out] at this
              simp only [List.length_map] at this
              rw [List.getElem?_eq_none (by rw [hbl.out]; omega)]
            · have hjl : j < y.bytes.length := (List.getElem?_eq_some_iff.1 hyc).1
              have := congrArg List.length e5
              rw [HM.out] at this
              simp only [List.length_map] at this
              exact (hC.out j d (by omega) (by rw [e5, List.map_map, List.getElem?_map, hyc]; rfl)).symm
    have n0 : (w0.toList == ([102, 101, 101, 100] : List UInt8)) = false := by have := toList_ne h0; rwa [ByteArray.toList_eq (⟨#[102, 101, 101, 100]⟩ : ByteArray)] at this
    by_cases h1 : w0 = ⟨#[114, 117, 110]⟩
    · subst h1
      have b0 := St3.out.blk.cell 0
      have b1 := St3.out.blk.cell 1
      have b2 := St3.out.blk.cell 2
      have a0 := St3.out.res.cell 0
      have a1 := St3.out.res.cell 1
      have a2 := St3.out.res.cell 2
      have f0 := St3.out.blk.free 0
      have f1 := St3.out.blk.free 1
      have g0 := St3.out.res.free 0
      have g1 := St3.out.res.free 1
      have g2 := St3.out.res.free 2
      simp only [List.getElem?_toArray, List.getElem?_cons_zero, List.getElem?_cons_succ] at b0 b1 b2 a0 a1 a2
      by_cases hM1 : M = 1
      · subst hM1
        obtain ⟨t, rfl⟩ : ∃ t, rest = [t] := by
          have := HM.out
          match rest, this with
          | [t], _ => exact ⟨t, rfl⟩
        have q1 : w3.cell? ⟨b + 2, 1, none⟩ = _ := Hq.out.cell 1
        simp only [List.map_cons, List.getElem?_toArray, List.getElem?_cons_zero, List.getElem?_cons_succ] at q1
        have KA := Lib.hid (atoi_u t w3 (by have := H3.out t (by simp); omega) (HL.out _ St3.out.bel))
        clear b0 b1 b2 a0 a1 a2 f0 f1 g0 g1 g2
        go_upto_region 18 with (go_at_call 35; refine KA.out.mono ?_; rintro e w4 ⟨⟨n, ev, hev, hn, rfl⟩, b4⟩)
        have St4 := Lib.hid (St3.out.below b4)
        have CN := Lib.hid hn
        clear hn b4 q0 q1 KA
        have b0 := St4.out.blk.cell 0
        have b1 := St4.out.blk.cell 1
        have b2 := St4.out.blk.cell 2
        have a0 := St4.out.res.cell 0
        have a1 := St4.out.res.cell 1
        have a2 := St4.out.res.cell 2
        have f0 := St4.out.blk.free 0
        have f1 := St4.out.blk.free 1
        have g0 := St4.out.res.free 0
        have g1 := St4.out.res.free 1
        have g2 := St4.out.res.free 2
        simp only [List.getElem?_toArray, List.getElem?_cons_zero, List.getElem?_cons_succ] at b0 b1 b2 a0 a1 a2
        rcases hev with rfl | ⟨et, ep, rfl⟩
        · clear a0 a1 a2 g0 g1 g2
          go_wp2
          go_meet
          refine ⟨3, n, _, _, (St4.out.kind 3).num n, fun x hf hx => ?_⟩
          obtain ⟨e1, e2, e3, e4⟩ := play_run hf (mkW_inj (List.cons.inj (ws_of HW.out hf hx)).1).symm
          have e5 := (List.cons.inj (ws_of HW.out hf hx)).2
          rw [e2] at e5
          have := (CN.out x.n e3 e4 (List.cons.inj e5).1).1
          rw [e1, this]
        · go_wp2
          have hfin := St4.out.fin (.int .i64 0) (.int .i64 0) (.slice none 0 0)
          obtain ⟨hfin1, hfin2, hc0, hc1, hc2⟩ := hfin
          refine bodyPost_ret (v := .tuple #[.agg #[.int .i64 0, .int .i64 0, .slice none 0 0], .bool false]) (by simp [results, Tryd.results23, go_sem, hc0, hc1, hc2]) rfl ?_
          refine ⟨_, _, rfl, ⟨_, _, _, _, _, rfl⟩, hfin1, (fun h => by cases h), fun _ x hf hx => ?_⟩
          obtain ⟨e1, e2, e3, e4⟩ := play_run hf (mkW_inj (List.cons.inj (ws_of HW.out hf hx)).1).symm
          have e5 := (List.cons.inj (ws_of HW.out hf hx)).2
          rw [e2] at e5
          have := (CN.out x.n e3 e4 (List.cons.inj e5).1).2
          cases this
      · have m1 : ((M : Int) + 1 != 2) = true := by simp; omega
        clear f0 f1
        go_wp2
        have hfin := St3.out.fin (.int .i64 0) (.int .i64 0) (.slice none 0 0)
        obtain ⟨hfin1, hfin2, hc0, hc1, hc2⟩ := hfin
        refine bodyPost_ret (v := .tuple #[.agg #[.int .i64 0, .int .i64 0, .slice none 0 0], .bool false]) (by simp [results, Tryd.results23, go_sem, hc0, hc1, hc2]) rfl ?_
        refine ⟨_, _, rfl, ⟨_, _, _, _, _, rfl⟩, hfin1, (fun h => by cases h), fun _ x hf hx => ?_⟩
        obtain ⟨e1, e2, e3, e4⟩ := play_run hf (mkW_inj (List.cons.inj (ws_of HW.out hf hx)).1).symm
        have e5 := (List.cons.inj (ws_of HW.out hf hx)).2
        rw [e2] at e5
        have := congrArg List.length e5
        rw [HM.out] at this
        exact hM1 (by simpa using this)
    have n1 : (w0.toList == ([114, 117, 110] : List UInt8)) = false := by have := toList_ne h1; rwa [ByteArray.toList_eq (⟨#[114, 117, 110]⟩ : ByteArray)] at this
    by_cases h2 : w0 = ⟨#[101, 110, 100]⟩
    · subst h2
      have hwl := True.intro
      have CK := Lib.hid (show ∀ x, fineK x = true → s = mkW (lineK x) → x = ⟨2, 0, []⟩ from fun x hf hx => play_end hf (mkW_inj (List.cons.inj (ws_of HW.out hf hx)).1).symm)
      clear hwl
      have b0 := St3.out.blk.cell 0
      have f0 := St3.out.blk.free 0
      simp only [List.getElem?_toArray, List.getElem?_cons_zero, List.getElem?_cons_succ] at b0
      go_wp2
      go_meet
      exact ⟨2, 0, _, _, St3.out.kind 2, CK.out⟩
    have n2 : (w0.toList == ([101, 110, 100] : List UInt8)) = false := by have := toList_ne h2; rwa [ByteArray.toList_eq (⟨#[101, 110, 100]⟩ : ByteArray)] at this
    by_cases h3 : w0 = ⟨#[109, 105, 110, 111, 114]⟩
    · subst h3
      have hwl := True.intro
      have CK := Lib.hid (show ∀ x, fineK x = true → s = mkW (lineK x) → x = ⟨4, 0, []⟩ from fun x hf hx => play_minor hf (mkW_inj (List.cons.inj (ws_of HW.out hf hx)).1).symm)
      clear hwl
      have b0 := St3.out.blk.cell 0
      have f0 := St3.out.blk.free 0
      simp only [List.getElem?_toArray, List.getElem?_cons_zero, List.getElem?_cons_succ] at b0
      go_wp2
      go_meet
      exact ⟨4, 0, _, _, St3.out.kind 4, CK.out⟩
    have n3 : (w0.toList == ([109, 105, 110, 111, 114] : List UInt8)) = false := by have := toList_ne h3; rwa [ByteArray.toList_eq (⟨#[109, 105, 110, 111, 114]⟩ : ByteArray)] at this
    by_cases h4 : w0 = ⟨#[109, 97, 106, 111, 114]⟩
    · subst h4
      have hwl := True.intro
      have CK := Lib.hid (show ∀ x, fineK x = true → s = mkW (lineK x) → x = ⟨5, 0, []⟩ from fun x hf hx => play_major hf (mkW_inj (List.cons.inj (ws_of HW.out hf hx)).1).symm)
      clear hwl
      have b0 := St3.out.blk.cell 0
      have f0 := St3.out.blk.free 0
      simp only [List.getElem?_toArray, List.getElem?_cons_zero, List.getElem?_cons_succ] at b0
      go_wp2
      go_meet
      exact ⟨5, 0, _, _, St3.out.kind 5, CK.out⟩
    have n4 : (w0.toList == ([109, 97, 106, 111, 114] : List UInt8)) = false := by have := toList_ne h4; rwa [ByteArray.toList_eq (⟨#[109, 97, 106, 111, 114]⟩ : ByteArray)] at this
    have CK := Lib.hid (show ∀ x, fineK x = true → s = mkW (lineK x) → x = ⟨0, 0, []⟩ from fun x hf hx => by
      have e := (List.cons.inj (ws_of HW.out hf hx)).1
      rcases play_none hf with r | r | r | r | r <;> rw [r] at e
      · exact absurd e h0
      · exact absurd e h1
      · exact absurd e h2
      · exact absurd e h3
      · exact absurd e h4)
    clear h0 h1 h2 h3 h4
    go_wp2
    go_meet
    exact ⟨0, 0, _, _, St3.out, CK.out⟩
  case rest =>
    obtain ⟨K, N, v, bs, hS, hC⟩ := hcut
    obtain ⟨a, c, rfl⟩ := hS.own.shape
    obtain ⟨n, hn⟩ : ∃ n, bs.length = n := ⟨_, rfl⟩
    have Hn := Lib.hid hn
    rw [hn] at hS
    have HC := Lib.hid hC
    have HS := Lib.hid hS
    obtain ⟨ln, hln⟩ : ∃ ln, mkW (lineK ⟨K, N, bs⟩) = ln := ⟨_, rfl⟩
    obtain ⟨bb, hbb⟩ : ∃ bb, (ln.toList == s.toList) = bb := ⟨_, rfl⟩
    have HLn := Lib.hid hln
    have HBB := Lib.hid hbb
    have hst : ∀ Wx, RSt w Wx b K N (.slice a n c) bs → Bts Wx (.slice a n c) bs := fun Wx h => h.own.held.now
    have KC := Lib.hid (show ∀ Wx q, Blk Wx q #[.int .i64 K, .int .i64 N, .slice a n c] → RSt w Wx b K N (.slice a n c) bs → Calls Tryd.prog 19 #[.slice (some ⟨q, 0, none⟩) 1 1] Wx fun e w' => e = .returned (.int .i64 (if fineK ⟨K, N, bs⟩ = true then 0 else 2)) ∧ Below Wx.heap.size Wx w' from by
      intro Wx q hB hW
      refine (check_any _ [⟨K, N, bs⟩] _ ⟨_, _, rfl, fun _ => ⟨_, _, rfl, hB.lt, fun k x hx => ?_⟩⟩).mono ?_
      · match k with
        | 0 =>
          simp only [List.getElem?_cons_zero, Option.some.injEq] at hx
          subst hx
          refine ⟨.slice a n c, fun j u hj => ?_, hst Wx hW⟩
          rw [show 0 + 0 * 3 + j = j by omega, hB.cell j]
          simpa using hj
        | k + 1 => simp at hx
      · rintro e w' ⟨rfl, hb⟩
        refine ⟨?_, hb⟩
        unfold chkK
        rw [if_neg (by simp)]
        simp)
    have KL := Lib.hid (show fineK ⟨K, N, bs⟩ = true → ∀ Wx, RSt w Wx b K N (.slice a n c) bs → Calls Tryd.prog 28 #[.agg #[.int .i64 K, .int .i64 N, .slice a n c]] Wx fun e w' => e = .returned (.string ln) ∧ Below Wx.heap.size Wx w' from fun hf Wx hW => HLn.out ▸ line_fine _ ⟨K, N, bs⟩ Wx ⟨_, rfl, hst Wx hW⟩ hf (by have := hW.len; show bs.length ≤ _; omega) (HL.out Wx hW.bel))
    have HB1 := Lib.hid (Blk.new wc #[.int .i64 K, .int .i64 N, .slice a n c] 34).drew
    have HB2 := Lib.hid (Blk.new wc.drew #[.int .i64 K, .int .i64 N, .slice a n c] 34)
    have HSD := Lib.hid (show RSt w (wc.alloc (.cells #[.int .i64 K, .int .i64 N, .slice a n c] 34)).drew b K N (.slice a n c) bs from hS.below (((Below.refl _ _).alloc (Nat.le_refl _) _).drew))
    have HSE := Lib.hid (show RSt w (wc.drew.alloc (.cells #[.int .i64 K, .int .i64 N, .slice a n c] 34)) b K N (.slice a n c) bs from hS.below (((Below.refl _ _).drew).alloc (Nat.le_refl _) _))
    have HCell := Lib.hid (show ∀ Wx, RSt w Wx b K N (.slice a n c) bs → Wx.cell? ⟨b + 1, 0, none⟩ = some (.int .i64 K) ∧ Wx.cell? ⟨b + 1, 1, none⟩ = some (.int .i64 N) ∧ Wx.cell? ⟨b + 1, 2, none⟩ = some (.slice a n c) from fun Wx h => ⟨h.blk.cell 0, h.blk.cell 1, h.blk.cell 2⟩)
    have HRes := Lib.hid (show ∀ Wx, RSt w Wx b K N (.slice a n c) bs → Wx.cell? ⟨b, 0, none⟩ = some (.int .i64 0) ∧ Wx.cell? ⟨b, 1, none⟩ = some (.int .i64 0) ∧ Wx.cell? ⟨b, 2, none⟩ = some (.slice none 0 0) ∧ Wx.frozen? ⟨b, 0, none⟩ = false ∧ Wx.frozen? ⟨b, 1, none⟩ = false ∧ Wx.frozen? ⟨b, 2, none⟩ = false from fun Wx h => ⟨h.res.cell 0, h.res.cell 1, h.res.cell 2, h.res.free 0, h.res.free 1, h.res.free 2⟩)
    clear hS hC hn hln hst q0 St3 Hq HW H3 H2 HL St2 KS
    by_cases hf : fineK ⟨K, N, bs⟩ = true
    · have KC2 := Lib.hid (show ∀ Wx q, Blk Wx q #[.int .i64 K, .int .i64 N, .slice a n c] → RSt w Wx b K N (.slice a n c) bs → Calls Tryd.prog 19 #[.slice (some ⟨q, 0, none⟩) 1 1] Wx fun e w' => e = .returned (.int .i64 0) ∧ Below Wx.heap.size Wx w' from fun Wx q h1 h2 => (KC.out Wx q h1 h2).mono (by rintro e w' ⟨rfl, hb⟩; rw [if_pos hf]; exact ⟨rfl, hb⟩))
      have KL2 := Lib.hid (KL.out hf)
      have HF := Lib.hid hf
      clear KC KL hf
      go_upto_region 27 with fail
      have hS0 := HCell.out _ HSD.out
      have hS4 := HCell.out _ HSE.out
      have hS5 := HCell.out _ (HS.out.below (Below.refl _ _).drew)
      have hS1 := HCell.out _ HS.out
      go_region_held3 (fun wx => wx.cell? ⟨b + 1, 0, none⟩ = some (.int .i64 K) ∧ wx.cell? ⟨b + 1, 1, none⟩ = some (.int .i64 N) ∧ wx.cell? ⟨b + 1, 2, none⟩ = some (.slice a n c)) (first | assumption | go_keep) (first | (go_at_call 19; with_reducible (refine (KC2.out _ _ ?_ ?_).mono ?_); exact HB1.out; exact HSD.out; rintro r1 w1 ⟨rfl, b1⟩; have K1 := Lib.hid (HSD.out.below b1); have hS2 := HCell.out _ K1.out; clear b1) | (go_at_call 28; with_reducible (refine (KL2.out _ K1.out).mono ?_); rintro r2 w2 ⟨rfl, b2⟩; have K2 := Lib.hid (K1.out.below b2); have hS3 := HCell.out _ K2.out; obtain ⟨a0, a1, a2, g0, g1, g2⟩ := HRes.out _ K2.out; clear b2))
      all_goals
        go_wp2
        obtain ⟨hfin1, hfin2, hc0, hc1, hc2⟩ := K2.out.fin (.int .i64 K) (.int .i64 N) (.slice a n c)
        refine bodyPost_ret (v := .tuple #[.agg #[.int .i64 K, .int .i64 N, .slice a n c], .bool bb]) (by simp [results, Tryd.results23, go_sem, hc0, hc1, hc2]) rfl ?_
        refine ⟨_, bb, rfl, ⟨_, _, _, _, _, rfl⟩, hfin1, fun hbt => ⟨⟨K, N, bs⟩, HF.out, ?_, HS.out.len, hfin2⟩, fun hbf x hfx hx => ?_⟩
        · rw [HLn.out]
          exact (bytes_eq (HBB.out.trans hbt)).symm
        · have e := HC.out x hfx hx
          rw [hx, e, HLn.out] at HBB
          have := HBB.out
          rw [beq_self_eq_true, hbf] at this
          cases this
    · have KC2 := Lib.hid (show ∀ Wx q, Blk Wx q #[.int .i64 K, .int .i64 N, .slice a n c] → RSt w Wx b K N (.slice a n c) bs → Calls Tryd.prog 19 #[.slice (some ⟨q, 0, none⟩) 1 1] Wx fun e w' => e = .returned (.int .i64 2) ∧ Below Wx.heap.size Wx w' from fun Wx q h1 h2 => (KC.out Wx q h1 h2).mono (by rintro e w' ⟨rfl, hb⟩; rw [if_neg hf]; exact ⟨rfl, hb⟩))
      have HF := Lib.hid hf
      clear KC KL hf
      go_upto_region 27 with fail
      have hS0 := HCell.out _ HSD.out
      have hS4 := HCell.out _ HSE.out
      have hS5 := HCell.out _ (HS.out.below (Below.refl _ _).drew)
      have hS1 := HCell.out _ HS.out
      first | go_region_with (go_at_call 19; with_reducible (refine (KC2.out _ _ ?_ ?_).mono ?_); (first | exact HB1.out | exact HB2.out); (first | exact HSD.out | exact HSE.out); rintro r1 w1 ⟨rfl, b1⟩; have K1 := Lib.hid (HSD.out.below b1); have hS2 := HCell.out _ K1.out; obtain ⟨a0, a1, a2, g0, g1, g2⟩ := HRes.out _ K1.out; clear b1) | fail
      all_goals
        go_wp2
        obtain ⟨hfin1, hfin2, hc0, hc1, hc2⟩ := K1.out.fin (.int .i64 K) (.int .i64 N) (.slice a n c)
        refine bodyPost_ret (v := .tuple #[.agg #[.int .i64 K, .int .i64 N, .slice a n c], .bool false]) (by simp [results, Tryd.results23, go_sem, hc0, hc1, hc2]) rfl ?_
        refine ⟨_, false, rfl, ⟨_, _, _, _, _, rfl⟩, hfin1, (fun h => by cases h), fun _ x hfx hx => ?_⟩
        exact HF.out (HC.out x hfx hx ▸ hfx)
end Go.Proofs.YtbjlnllbcgghlaaDoor
