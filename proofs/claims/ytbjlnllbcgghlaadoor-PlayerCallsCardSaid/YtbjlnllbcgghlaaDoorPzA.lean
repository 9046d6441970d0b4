/- The reference's Text, Input and Parse. -/
import Derived.Test.YtbjlnllbcgghlaaDoorPyX
namespace Go.Proofs.YtbjlnllbcgghlaaDoor
open Go.RowKit Go.Shelf
set_option linter.unusedSimpArgs false
set_option linter.unusedVariables false

theorem mk_size (l : List UInt8) : (mkW l).size = l.length := by simp [mkW, ByteArray.size]
theorem mk_cat (a b : List UInt8) : mkW a ++ mkW b = mkW (a ++ b) := cat_eq a b
set_option maxRecDepth 100000 in
set_option maxHeartbeats 8000000 in
theorem rtext_any (v : Value) (l : List PlD) (w : World) (h : Pls w v l) (hsm : smallK l) :
    Calls Tryd.prog 15 #[v] w fun e w' => e = .returned (.tuple #[.string (mkW (textS l)), .int .i64 (chkK l)]) ∧ Below w.heap.size w w' := by
  have KC := rcheck_any v l w h
  obtain ⟨c, hc⟩ : ∃ c, chkK l = c := ⟨_, rfl⟩
  rw [hc] at KC ⊢
  obtain ⟨a, ca, rfl, ha⟩ := h
  obtain ⟨N, hN⟩ : ∃ N, l.length = N := ⟨_, rfl⟩
  have HN := Lib.hid hN
  have Ha := Lib.hid ha
  rw [hN] at KC ⊢
  clear ha hN
  go_enter Tryd.func15, Tryd.ntmps15
  go_upto_region 2 with (go_at_call 20; refine KC.mono ?_; rintro r1 w1 ⟨rfl, b1⟩)
  by_cases h0 : c = 0
  · subst h0
    obtain ⟨hlen, hfine⟩ := chk_zero hc
    have HF := Lib.hid hfine
    have hlen2 : N ≤ 4096 := by rw [← HN.out]; exact hlen
    have HTT := Lib.hid (small_text hsm hfine)
    have HTS := Lib.hid (show textS l = textK l by unfold textS; rw [if_pos hc])
    have B0 := Lib.hid b1
    clear b1 hc hfine hlen
    go_wp2
    go_loopw [5, 6] (fun s i wr => ∃ (k : Nat) (u : ByteArray), i = .int .i64 k ∧ s = .string u ∧ k ≤ N ∧ u.size ≤ 200000 ∧ Hid (u = mkW (textK (l.take k))) ∧ Below w.heap.size w wr) (fun _ i _ => N - (intOf i).toNat)
    case atStart => exact ⟨0, _, rfl, rfl, Nat.zero_le _, by decide, Lib.hid rfl, B0.out⟩
    case round =>
      obtain ⟨k, u, rfl, rfl, hk, hus, HU, hB⟩ := hrel
      by_cases hlt : k < N
      · have hlt2 : decide ((k : Int) < (N : Int)) = true := by simp; omega
        have hlt3 : decide (k < N) = true := by simp; omega
        have hi0 : (0 : Int) ≤ (k : Int) := by omega
        have hkt : k < l.length := by rw [HN.out]; exact hlt
        obtain ⟨p, o, rfl, hp, hat⟩ := Ha.out (by omega)
        obtain ⟨x, hx⟩ : ∃ x, l[k]? = some x := ⟨_, List.getElem?_eq_getElem hkt⟩
        obtain ⟨vs, hcs, hbts⟩ := hat k x hx
        have hxm := List.mem_of_getElem? hx
        obtain ⟨ab, cb, e1, -⟩ := id hbts
        have HX := Lib.hid hx
        have HXF := Lib.hid (HF.out x hxm)
        have HXL := Lib.hid (small_bytes hsm hxm)
        obtain ⟨m, hm⟩ : ∃ m, x.bytes.length = m := ⟨_, rfl⟩
        obtain ⟨kd, hkd⟩ : ∃ m, x.kind = m := ⟨_, rfl⟩
        obtain ⟨nn, hnn⟩ : ∃ m, x.n = m := ⟨_, rfl⟩
        have KL := rline_fine (.agg #[.int .i64 x.kind, .int .i64 x.n, vs]) x wr ⟨vs, rfl, hbts.below hB⟩ HXF.out (by have := HXL.out; omega)
        subst e1
        rw [hm] at hcs KL
        rw [hkd, hnn] at hcs KL
        have c0 := (hB.cell (p := ⟨p, o + k * 3 + 0, none⟩) hp).trans (hcs 0 _ rfl)
        have c1 := (hB.cell (p := ⟨p, o + k * 3 + 1, none⟩) hp).trans (hcs 1 _ rfl)
        have c2 := (hB.cell (p := ⟨p, o + k * 3 + 2, none⟩) hp).trans (hcs 2 _ rfl)
        rw [Nat.add_zero] at c0
        obtain ⟨t, ht⟩ : ∃ t : ByteArray, (⟨(lineK x).toArray⟩ : ByteArray) = t := ⟨_, rfl⟩
        rw [ht] at KL
        have zt : t.size ≤ 60011 := by rw [← ht]; have := HXL.out; have := line_len HXF.out; show (lineK x).toArray.size ≤ _; rw [List.size_toArray]; omega
        have zs : (⟨#[10]⟩ : ByteArray).size = 1 := rfl
        have HNX := Lib.hid (show u ++ t ++ ⟨#[10]⟩ = mkW (textK (l.take (k + 1))) by
          rw [text_next HX.out, HU.out, ← ht, show (⟨#[10]⟩ : ByteArray) = mkW [10] from rfl, show (⟨(lineK x).toArray⟩ : ByteArray) = mkW (lineK x) from rfl, mk_cat, mk_cat, List.append_assoc])
        have HNS := Lib.hid (show (u ++ t ++ ⟨#[10]⟩ : ByteArray).size ≤ 200000 by
          rw [HNX.out, mk_size]; have := text_take l (k + 1); have := HTT.out; omega)
        have HB := Lib.hid hB
        clear hat hx hcs hm hkd hnn hbts hxm ht hB
        go_wp2_with (go_at_call 30; refine KL.mono ?_; rintro r1 w1 ⟨rfl, b1⟩; have HB2 := Lib.hid (chain HB.out b1); clear b1)
        go_roundw
        case measure => simp [intOf]; omega
        case rel => exact ⟨k + 1, _, by go_num, rfl, by omega, HNS.out, HNX, HB2.out⟩
      · have hlt2 : decide ((k : Int) < (N : Int)) = false := by simp; omega
        have hlt3 : decide (k < N) = false := by simp; omega
        obtain rfl : N = k := by omega
        have hal : textK (l.take N) = textK l := by rw [← HN.out, List.take_length]
        have HUL := Lib.hid (show u = mkW (textS l) by rw [HTS.out, ← hal]; exact HU.out)
        clear HU hal
        go_wp2
        refine bodyPost_ret (v := .tuple #[.string (mkW (textS l)), .int .i64 0]) (by simp [results, Tryd.results15, go_sem, HUL.out, Array.mapM_eq_mapM_toList]) rfl ?_
        exact ⟨rfl, hB⟩
  · have e1 : (c != 0) = true := by simp; exact h0
    have HTS := Lib.hid (show textS l = [] by unfold textS; rw [if_neg (by rw [hc]; exact h0)])
    clear hc
    go_wp2
    refine bodyPost_ret (v := .tuple #[.string (mkW (textS l)), .int .i64 c]) (by simp [results, Tryd.results15, go_sem, HTS.out, mkW]) rfl ?_
    exact ⟨rfl, b1⟩
set_option maxRecDepth 100000 in
set_option maxHeartbeats 8000000 in
theorem rinput_any (v : Value) (l : List PlD) (w : World) (h : Pls w v l) (hsm : smallK l) :
    Calls Tryd.prog 18 #[v] w fun e w' => ∃ v', e = .returned (.tuple #[v', .bool (endB l)]) ∧ Bts w' v' (inB l) ∧ Below w.heap.size w w' := by
  obtain ⟨a, ca, rfl, ha⟩ := h
  obtain ⟨N, hN⟩ : ∃ N, l.length = N := ⟨_, rfl⟩
  have HN := Lib.hid hN
  have Ha := Lib.hid ha
  have hNb : N ≤ 5000 := by rw [← hN]; exact hsm.1
  rw [hN]
  clear ha hN
  go_enter Tryd.func18, Tryd.ntmps18
  go_wp2
  go_loopw [4, 5] (fun o i wr => ∃ (k : Nat) (bs : List UInt8), i = .int .i64 k ∧ k ≤ N ∧ Hid (∀ y ∈ l.take k, y.kind ≠ 2) ∧ Hid (UOwn wr w.heap.size o bs) ∧ Hid (bs = (l.take k).flatMap feedB) ∧ Below w.heap.size w wr) (fun _ i _ => N - (intOf i).toNat)
  case atStart => exact ⟨0, [], rfl, Nat.zero_le _, Lib.hid (fun y hy => by simp at hy), Lib.hid (UOwn.nil _ _), Lib.hid rfl, Below.refl _ _⟩
  case round =>
    obtain ⟨k, bs, rfl, hk, HA, HU, HBS, hB⟩ := hrel
    obtain ⟨ao, co, hvo⟩ := HU.out.shape
    obtain ⟨nb, hnb⟩ : ∃ q, bs.length = q := ⟨_, rfl⟩
    rw [hnb] at hvo
    subst hvo
    by_cases hlt : k < N
    · have hlt2 : decide ((k : Int) < (N : Int)) = true := by simp; omega
      have hlt3 : decide (k < N) = true := by simp; omega
      have hi0 : (0 : Int) ≤ (k : Int) := by omega
      have hkt : k < l.length := by rw [HN.out]; omega
      obtain ⟨p, o, rfl, hp, hat⟩ := Ha.out (by omega)
      obtain ⟨x, hx⟩ : ∃ x, l[k]? = some x := ⟨_, List.getElem?_eq_getElem hkt⟩
      obtain ⟨vs, hcs, hbts⟩ := hat k x hx
      obtain ⟨ab, cb, e1, -⟩ := id hbts
      obtain ⟨kd, hkd⟩ : ∃ m, x.kind = m := ⟨_, rfl⟩
      obtain ⟨nn, hnn⟩ : ∃ m, x.n = m := ⟨_, rfl⟩
      obtain ⟨m, hm⟩ : ∃ m, x.bytes.length = m := ⟨_, rfl⟩
      rw [hm] at e1
      subst e1
      rw [hkd, hnn] at hcs
      have c0 := (hB.cell (p := ⟨p, o + k * 3 + 0, none⟩) hp).trans (hcs 0 _ rfl)
      have c1 := (hB.cell (p := ⟨p, o + k * 3 + 1, none⟩) hp).trans (hcs 1 _ rfl)
      have c2 := (hB.cell (p := ⟨p, o + k * 3 + 2, none⟩) hp).trans (hcs 2 _ rfl)
      rw [Nat.add_zero] at c0
      have HBT := Lib.hid (hbts.below hB)
      have HB := Lib.hid hB
      have HX := Lib.hid hx
      have HKD := Lib.hid hkd
      have HXK := Lib.hid (show feedB x = if kd = 1 then x.bytes else [] by unfold feedB; rw [hkd])
      have HXL := Lib.hid (show bs.length + x.bytes.length ≤ 40000 by
        have := small_bytes hsm (List.mem_of_getElem? hx)
        have := feed_sum (l.take k); have := bsum_take l k; have h2 := hsm.2
        unfold bsum at *; rw [HBS.out]; omega)
      clear hat hx hcs hkd hnn hm hbts hB
      by_cases h2 : kd = 2
      · subst h2
        obtain ⟨q1, q2⟩ := up_found HX.out HKD.out HA.out
        have HP := Lib.hid (show Bts wr (.slice ao nb co) (inB l) by unfold inB; rw [q1, ← HBS.out]; exact HU.out.bts)
        have HE := Lib.hid q2
        clear q1 q2
        go_wp2
        refine bodyPost_ret (v := .tuple #[.slice ao nb co, .bool true]) (by simp [results, Tryd.results18, go_sem, Array.mapM_eq_mapM_toList]) rfl ?_
        exact ⟨_, by rw [HE.out], HP.out, HB.out⟩
      · have he2 : (kd == 2) = false := by simp; omega
        have HA2 := Lib.hid (no_next HX.out (by rw [HKD.out]; exact h2) HA.out)
        by_cases he : kd = 1
        · subst he
          obtain ⟨v', W', hrun, hU3, -, hB3, -⟩ := HU.out.app HBT.out (by have := HXL.out; omega) HB.out.size
          have HU3 := Lib.hid hU3
          have HB3 := Lib.hid (HB.out.trans hB3)
          have HF := Lib.hid (show bs ++ x.bytes = (l.take (k + 1)).flatMap feedB by rw [feed_take HX.out, ← HBS.out, HXK.out, if_pos rfl])
          clear hU3 hB3
          go_wp2_with (refine wpList_append_run (by rfl) _ _ _ _ (by rfl) _ _ _ _ (by rfl) (by rfl) hrun ?_)
          go_roundw
          case measure => simp [intOf]; omega
          case rel => exact ⟨k + 1, _, by go_num, by omega, HA2, HU3, HF, HB3.out⟩
        · have he3 : (kd == 1) = false := by simp; omega
          have HF := Lib.hid (show bs = (l.take (k + 1)).flatMap feedB by rw [feed_take HX.out, ← HBS.out, HXK.out, if_neg he, List.append_nil])
          go_wp2
          go_roundw
          case measure => simp [intOf]; omega
          case rel => exact ⟨k + 1, _, by go_num, by omega, HA2, HU, HF, HB.out⟩
    · have hlt2 : decide ((k : Int) < (N : Int)) = false := by simp; omega
      have hlt3 : decide (k < N) = false := by simp; omega
      obtain rfl : N = k := by omega
      have hal : l.take N = l := by rw [← HN.out, List.take_length]
      have hno := HA.out
      rw [hal] at hno
      obtain ⟨q1, q2⟩ := up_none hno
      have HP := Lib.hid (show Bts wr (.slice ao nb co) (inB l) by unfold inB; rw [q1]; have := HU.out.bts; rw [HBS.out, hal] at this; exact this)
      have HE := Lib.hid q2
      clear q1 q2 hno hal
      go_wp2
      refine bodyPost_ret (v := .tuple #[.slice ao nb co, .bool false]) (by simp [results, Tryd.results18, go_sem, Array.mapM_eq_mapM_toList]) rfl ?_
      exact ⟨_, by rw [HE.out], HP.out, hB⟩

/-! Parse. -/
structure RPt (s : ByteArray) (w wr : World) (b : Nat) (fr : Nat) (v : Value) (us : List (PlD × Value)) : Prop where
  bel : Below w.heap.size w wr
  bw : w.heap.size = b
  res : Blk wr b #[.int .i64 0, .int .i64 0]
  own : POwn wr (b + 1) v us
  len : us.length ≤ fr
theorem RPt.below {s : ByteArray} {w wr wr' : World} {b fr : Nat} {v : Value} {us : List (PlD × Value)} (h : RPt s w wr b fr v us) (hb : Below wr.heap.size wr wr') : RPt s w wr' b fr v us :=
  ⟨chain h.bel hb, h.bw, h.res.below hb h.res.lt, h.own.below hb, h.len⟩
theorem RPt.fin {s : ByteArray} {w wr : World} {b fr : Nat} {v : Value} {us : List (PlD × Value)} (h : RPt s w wr b fr v us) (x0 x1 : Value) :
    Below w.heap.size w ((wr.setCell ⟨b, 0, none⟩ x0).setCell ⟨b, 1, none⟩ x1) ∧ ((wr.setCell ⟨b, 0, none⟩ x0).setCell ⟨b, 1, none⟩ x1).cell? ⟨b, 0, none⟩ = some x0 ∧ ((wr.setCell ⟨b, 0, none⟩ x0).setCell ⟨b, 1, none⟩ x1).cell? ⟨b, 1, none⟩ = some x1 ∧
    (wr.setCell ⟨b, 0, none⟩ x0).cell? ⟨b, 0, none⟩ = some x0 ∧ Pls ((wr.setCell ⟨b, 0, none⟩ x0).setCell ⟨b, 1, none⟩ x1) v (us.map (·.1)) := by
  have hw := h.bw
  have g := grown_trans (grown_set wr b 0 x0) (grown_set _ b 1 x1)
  refine ⟨below_grown_new h.bel g (by omega), ((h.res.set 0 x0 (by simp)).set 1 x1 (by simp)).cell 0, ((h.res.set 0 x0 (by simp)).set 1 x1 (by simp)).cell 1, (h.res.set 0 x0 (by simp)).cell 0, (h.own.other g (by omega)).pls⟩
theorem RPt.push {s : ByteArray} {w w1 w2 W : World} {b fr fr2 : Nat} {v : Value} {us : List (PlD × Value)} (h1 : RPt s w w1 b fr v us) (hl : us.length + 1 ≤ fr2) (hs : fr2 ≤ 1000000) {x : PlD} {vs : Value} (hv : Held w1.heap.size w2.heap.size w2 (fun W => Bts W vs x.bytes)) (hb2 : Below w1.heap.size w1 w2) (hb3 : Below w2.heap.size w2 W) (a : Nat) (hc : CellsAt W a 0 [.int .i64 x.kind, .int .i64 x.n, vs]) (hone : vs.oneCell' = true) :
    ∃ v' W', (Builtin.append_ #[24, 24] 24 #[v, .slice (some ⟨a, 0, none⟩) 1 1]).run Tryd.prog W = .ok v' W' ∧ RPt s w W' b fr2 v' (us ++ [(x, vs)]) := by
  have hw := h1.bw
  have hz := h1.bel.size
  have h2 := h1.below hb2
  have h3 := h2.below hb3
  have hlt := h1.res.lt
  obtain ⟨v', W', k1, k2, k3, k4, k5⟩ := h3.own.push x vs a hc hone w1.heap.size w2.heap.size (by omega) (hv.below hb3) (fun g hg => .inl (own_lt h1.own.row g hg)) (by omega) (by have := hb2.size; have := hb3.size; omega)
  exact ⟨v', W', k1, (h3.bel.trans (k3.mono (by omega))), hw, h3.res.below k3 (by omega), k2, by simp; omega⟩
set_option maxRecDepth 100000 in
set_option maxHeartbeats 8000000 in
theorem rparse_any (s : ByteArray) (w : World) (hs : s.size ≤ 1000000) :
    Calls Tryd.prog 16 #[.string s] w fun e w' => ParsePost s w e w' := by
  obtain ⟨b, hb⟩ : ∃ b, w.heap.size = b := ⟨_, rfl⟩
  have l1 : Below w.heap.size w (w.alloc (.cells #[.int .i64 0, .int .i64 0] 27)) := (Below.refl _ w).alloc (Nat.le_refl _) _
  have R1 := Blk.new w #[.int .i64 0, .int .i64 0] 27
  have z1 : (w.alloc (.cells #[.int .i64 0, .int .i64 0] 27)).heap.size = b + 1 := by simp [hb]
  rw [hb] at R1
  go_enter Tryd.func16, Tryd.ntmps16
  go_upto_region 1 with fail
  generalize w.alloc (.cells #[.int .i64 0, .int .i64 0] 27) = W1 at l1 R1 z1 ⊢
  have S0 := Lib.hid (show RPt s w W1 b 0 (.slice none 0 0) [] from ⟨l1, hb, R1, POwn.nil _ _, Nat.le_refl _⟩)
  have HBD := Lib.hid hb
  try simp only [hb]
  clear l1 R1 z1 hb
  go_wp2
  go_loopw [4, 5, 6] (fun o f i wr => ∃ (k fr : Nat) (us : List (PlD × Value)), i = .int .i64 k ∧ f = .int .i64 fr ∧ k ≤ s.size ∧ fr ≤ k ∧ Hid (RPt s w wr b fr o us) ∧ Hid (GoS s fr (us.map (·.1))) ∧ Hid (∀ j, fr ≤ j → j < k → s.data.toList[j]? ≠ some 10)) (fun _ _ i _ => s.size - (intOf i).toNat)
  case atStart => exact ⟨0, 0, [], rfl, rfl, Nat.zero_le _, Nat.le_refl _, S0, Lib.hid (GoS.start s), Lib.hid (fun j h1 h2 => by omega)⟩
  case round =>
    obtain ⟨k, fr, us, rfl, rfl, hk, hfk, S, G, HNL⟩ := hrel
    obtain ⟨ao, co, hvo⟩ := S.out.own.shape
    by_cases hlt : k < s.size
    · have hlt2 : decide ((k : Int) < (s.size : Int)) = true := by simp; omega
      have hlt3 : decide (k < s.size) = true := by simp; omega
      have hi0 : (0 : Int) ≤ (k : Int) := by omega
      obtain ⟨c, hc⟩ : ∃ c, s[k] = c := ⟨_, rfl⟩
      have HX := Lib.hid (show s.data.toList[k]? = some c by rw [← hc]; exact List.getElem?_eq_getElem (by show k < s.size; omega))
      by_cases hcn : c = 10
      · have hc10 : ((c.toNat : Int) != 10) = false := by rw [hcn]; rfl
        have hc11 : (c.toNat != 10) = false := by rw [hcn]; rfl
        have hcI : (c.toNat : Int) = 10 := by rw [hcn]; rfl
        have ho : FirstNl (s.data.toList.drop fr) (k - fr) := by
          refine ⟨by rw [List.getElem?_drop, show fr + (k - fr) = k by omega, HX.out, hcn], fun j hj h => ?_⟩
          rw [List.getElem?_drop] at h
          exact HNL.out (fr + j) (by omega) (by omega) h
        obtain ⟨t, ht⟩ : ∃ t, s.extract fr k = t := ⟨_, rfl⟩
        have hpe := piece_eq s fr (k - fr)
        rw [show fr + (k - fr) = k by omega, ht] at hpe
        have KR := rread_any t wr (by rw [← ht, ByteArray.size_extract]; omega)
        have HO := Lib.hid (And.intro ho hpe)
        have hf0 : (0 : Int) ≤ (fr : Int) := by omega
        have hfk2 : (fr : Int) ≤ (k : Int) := by omega
        have hks : (k : Int) ≤ (s.size : Int) := by omega
        clear ho hpe hcn
        go_upto_region 8 with (go_at_call 31; refine KR.mono ?_; rintro r2 w2 ⟨v2, bb, rfl, ⟨K, N, a, n, c2, rfl⟩, hb2, hbt, hbf⟩)
        have HB2 := Lib.hid hb2
        have HT := Lib.hid hbt
        have HF := Lib.hid hbf
        have l3 : Below w2.heap.size w2 (w2.alloc (.cells #[.int .i64 K, .int .i64 N, .slice a n c2] 34)) := (Below.refl _ w2).alloc (Nat.le_refl _) _
        have R3 := Blk.new w2 #[.int .i64 K, .int .i64 N, .slice a n c2] 34
        have S4 := Lib.hid ((S.out.below hb2).below l3)
        have L3 := Lib.hid l3
        clear hbt hbf hb2 KR l3
        generalize w2.alloc (.cells #[.int .i64 K, .int .i64 N, .slice a n c2] 34) = w3 at R3 S4 L3 ⊢
        generalize w2.heap.size = b3 at R3 ⊢
        have d0 : w3.cell? ⟨b3, 0, none⟩ = _ := R3.cell 0
        have d1 : w3.cell? ⟨b3, 1, none⟩ = _ := R3.cell 1
        have d2 : w3.cell? ⟨b3, 2, none⟩ = _ := R3.cell 2
        have e0 : w3.cell? ⟨b, 0, none⟩ = _ := S4.out.res.cell 0
        have e1 : w3.cell? ⟨b, 1, none⟩ = _ := S4.out.res.cell 1
        simp only [List.getElem?_toArray, List.getElem?_cons_zero, List.getElem?_cons_succ] at d0 d1 d2 e0 e1
        have y0 := S4.out.res.free 0
        have y1 := S4.out.res.free 1
        clear R3
        rcases bb with _ | _
        · have HP := Lib.hid (show parseK s = ([], 6, (fr : Int)) from G.out.bad HO.out.1 (fun x hx => by rw [← HO.out.2]; exact HF.out rfl x hx))
          obtain ⟨f0, f1, f2, f3, -⟩ := S4.out.fin (.int .i64 6) (.int .i64 fr)
          go_wp2
          refine bodyPost_ret (v := .tuple #[.slice none 0 0, .agg #[.int .i64 6, .int .i64 fr]]) (by simp [results, Tryd.results16, go_sem, f1, f2, f3]) rfl ?_
          exact ParsePost.mk HP.out rfl (Pls.emp _) f0
        · clear e0 e1 y0 y1
          obtain ⟨x, hf, hx, hbl, hheld⟩ := HT.out rfl
          obtain ⟨vs, hvs, -⟩ := hheld.now
          simp only [Value.agg.injEq, Array.mk.injEq, List.cons.injEq, Value.int.injEq, true_and, and_true] at hvs
          obtain ⟨rfl, rfl, rfl⟩ := hvs
          have hh : Held wr.heap.size w2.heap.size w2 (fun W => Bts W (.slice a n c2) x.bytes) := hheld.mp fun W hW => by
            obtain ⟨vs, e, hb⟩ := hW
            simp only [Value.agg.injEq, Array.mk.injEq, List.cons.injEq, Value.int.injEq, true_and, and_true] at e
            exact e ▸ hb
          have G2 := Lib.hid (show GoS s (k + 1) ((us ++ [(x, Value.slice a n c2)]).map (·.1)) by rw [List.map_append]; have := G.out.step HO.out.1 hf (by rw [← HO.out.2]; exact hx); rwa [show fr + (k - fr) + 1 = k + 1 by omega] at this)
          have hul := S.out.len
          have l4 : Below w3.heap.size w3 (w3.alloc (.cells #[.int .i64 x.kind, .int .i64 x.n, .slice a n c2] 34)) := (Below.refl _ w3).alloc (Nat.le_refl _) _
          have R4 := Blk.new w3 #[.int .i64 x.kind, .int .i64 x.n, .slice a n c2] 34
          obtain ⟨v', W', hrun, hS⟩ := S.out.push (fr2 := k + 1) (by omega) (by omega) hh HB2.out (L3.out.trans (l4.mono L3.out.size)) w3.heap.size (fun j q hj => by
            rw [Nat.zero_add]
            refine (R4.cell j).trans ?_
            simpa using hj) rfl
          have HS := Lib.hid hS
          have HNL2 := Lib.hid (show ∀ j, k + 1 ≤ j → j < k + 1 → s.data.toList[j]? ≠ some 10 from fun j h1 h2 => by omega)
          clear hh hheld hx hf R4 l4 hS
          rw [hvo] at hrun
          generalize hgx : x.kind = kx at *
          generalize hgn : x.n = nx at *
          go_wp2_with (refine wpList_append_run (by rfl) _ _ _ _ (by rfl) _ _ _ _ (by rfl) (by rfl) hrun ?_)
          go_roundw
          case rel => exact ⟨k + 1, k + 1, _, by go_num, by go_num, by omega, Nat.le_refl _, HS, G2, HNL2⟩
          case measure => simp [intOf]; omega
      · have hc10 : ((c.toNat : Int) != 10) = true := by
          simp; intro e; exact hcn (UInt8.toNat_inj.1 (by rw [show ((10 : UInt8)).toNat = 10 from rfl]; omega))
        have HNL2 := Lib.hid (show ∀ j, fr ≤ j → j < k + 1 → s.data.toList[j]? ≠ some 10 from fun j h1 h2 h => by
          rcases Nat.lt_or_ge j k with q | q
          · exact HNL.out j h1 q h
          · obtain rfl : j = k := by omega
            rw [HX.out] at h
            exact hcn (by simpa using h))
        clear hcn
        go_wp2
        go_roundw
        case rel => exact ⟨k + 1, fr, us, by go_num, rfl, by omega, by omega, S, G, HNL2⟩
        case measure => simp [intOf]; omega
    · have hlt2 : decide ((k : Int) < (s.size : Int)) = false := by simp; omega
      have hlt3 : decide (k < s.size) = false := by simp; omega
      obtain rfl : k = s.size := by omega
      have e0 : wr.cell? ⟨b, 0, none⟩ = _ := S.out.res.cell 0
      have e1 : wr.cell? ⟨b, 1, none⟩ = _ := S.out.res.cell 1
      simp only [List.getElem?_toArray, List.getElem?_cons_zero, List.getElem?_cons_succ] at e0 e1
      have y0 := S.out.res.free 0
      have y1 := S.out.res.free 1
      by_cases hrest : fr < s.size
      · have r1 : decide ((fr : Int) < (s.size : Int)) = true := by simp; omega
        have r2 : decide (fr < s.size) = true := by simp; omega
        have HP := Lib.hid (show parseK s = ([], 6, (fr : Int)) from G.out.no hrest (fun j hj => by
          rw [List.getElem?_drop] at hj
          have hjl := (List.getElem?_eq_some_iff.1 hj).1
          rw [dsz] at hjl
          exact HNL.out (fr + j) (by omega) hjl hj))
        obtain ⟨f0, f1, f2, f3, -⟩ := S.out.fin (.int .i64 6) (.int .i64 fr)
        go_wp2
        refine bodyPost_ret (v := .tuple #[.slice none 0 0, .agg #[.int .i64 6, .int .i64 fr]]) (by simp [results, Tryd.results16, go_sem, f1, f2, f3]) rfl ?_
        exact ParsePost.mk HP.out rfl (Pls.emp _) f0
      · have r1 : decide ((fr : Int) < (s.size : Int)) = false := by simp; omega
        have r2 : decide (fr < s.size) = false := by simp; omega
        obtain rfl : fr = s.size := by omega
        have hfin := G.out.fin
        rw [List.length_map] at hfin
        by_cases hbig : 4096 < us.length
        · have t1 : decide ((4096 : Int) < (us.length : Int)) = true := by simp; omega
          have t2 : decide (4096 < us.length) = true := by simp; omega
          rw [if_pos hbig] at hfin
          have HP := Lib.hid hfin
          obtain ⟨f0, f1, f2, f3, -⟩ := S.out.fin (.int .i64 3) (.int .i64 0)
          clear hfin
          subst hvo
          go_wp2
          refine bodyPost_ret (v := .tuple #[.slice none 0 0, .agg #[.int .i64 3, .int .i64 0]]) (by simp [results, Tryd.results16, go_sem, f1, f2, f3]) rfl ?_
          exact ParsePost.mk HP.out rfl (Pls.emp _) f0
        · have t1 : decide ((4096 : Int) < (us.length : Int)) = false := by simp; omega
          have t2 : decide (4096 < us.length) = false := by simp; omega
          rw [if_neg hbig] at hfin
          have HP := Lib.hid hfin
          obtain ⟨f0, f1, f2, f3, f4⟩ := S.out.fin (.int .i64 0) (.int .i64 0)
          have F4 := Lib.hid f4
          clear hfin f4
          subst hvo
          go_wp2
          refine bodyPost_ret (v := .tuple #[.slice ao us.length co, .agg #[.int .i64 0, .int .i64 0]]) (by simp [results, Tryd.results16, go_sem, f1, f2, f3]) rfl ?_
          exact ParsePost.mk HP.out rfl F4.out f0
end Go.Proofs.YtbjlnllbcgghlaaDoor
