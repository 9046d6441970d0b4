/- Contracts of the reference's Check (any kind) and Push. (Printed by gen_push.py from the texts of the stack's own.) -/
import Derived.Test.YtmnadlgglmhfhaaRef2
import Derived.Test.YtmnadlgglmhfhaaRef3
namespace Go.Proofs.Ytmnadlgglmhfhaa
open Go.RowKit
set_option linter.unusedSimpArgs false

set_option maxRecDepth 100000 in
set_option maxHeartbeats 4000000 in
theorem rcheck_any (k o n : Int) (s : ByteArray) (a1 a2 : Option Addr) (l1 l2 c1 c2 : Nat) (w : World) :
    Calls Try.prog 26 #[.agg #[.int .i64 k, .int .i64 o, .int .i64 n, .string s, .slice a1 l1 c1, .slice a2 l2 c2]] w fun e w' => e = .returned (.int .i64 (if chkK k o n s l1 l2 then 0 else 2)) ∧ Below w.heap.size w w' := by
  by_cases hk : 1 ≤ k ∧ k ≤ 11
  · obtain ⟨k', rfl⟩ : ∃ m : Nat, k = m := ⟨k.toNat, by omega⟩
    have hc : chkK (k' : Int) o n s l1 l2 = chkM (mayOf k') o n s l1 l2 := by
      unfold chkK
      rw [decide_eq_true hk.1, decide_eq_true hk.2]
      simp
    rw [hc]
    clear hc
    have h1 : 1 ≤ k' ∧ k' ≤ 11 := by omega
    clear hk
    rcases k' with _|_|_|_|_|_|_|_|_|_|_|_|k'
    · omega
    · exact rcheck_1 o n s a1 a2 l1 l2 c1 c2 w
    · exact rcheck_2 o n s a1 a2 l1 l2 c1 c2 w
    · exact rcheck_3 o n s a1 a2 l1 l2 c1 c2 w
    · exact rcheck_4 o n s a1 a2 l1 l2 c1 c2 w
    · exact rcheck_5 o n s a1 a2 l1 l2 c1 c2 w
    · exact rcheck_6 o n s a1 a2 l1 l2 c1 c2 w
    · exact rcheck_7 o n s a1 a2 l1 l2 c1 c2 w
    · exact rcheck_8 o n s a1 a2 l1 l2 c1 c2 w
    · exact rcheck_9 o n s a1 a2 l1 l2 c1 c2 w
    · exact rcheck_10 o n s a1 a2 l1 l2 c1 c2 w
    · exact rcheck_11 o n s a1 a2 l1 l2 c1 c2 w
    · omega
  · have hr : chkK k o n s l1 l2 = false := by
      unfold chkK
      by_cases h : 1 ≤ k
      · have h' : ¬ k ≤ 11 := fun h2 => hk ⟨h, h2⟩
        rw [decide_eq_false h']; simp
      · rw [decide_eq_false h]; simp
    rw [hr]
    clear hr
    have e2 : (k == 2) = false := by rw [beq_eq_false_iff_ne]; omega
    have e4 : (k == 4) = false := by rw [beq_eq_false_iff_ne]; omega
    have e7 : (k == 7) = false := by rw [beq_eq_false_iff_ne]; omega
    by_cases h : k < 1
    · clear hk
      have h1 : decide (k < 1) = true := by simp; omega
      go_enter Try.func26, Try.ntmps26
      go_wp2
      exact bodyPost_ret (v := .int .i64 2) (by simp [results, Try.results26, go_sem]) rfl ⟨rfl, by ((repeat (first | exact Below.refl _ _ | (refine Below.alloc ?_ (by first | (simp [World.setCell]; done) | (simp [World.setCell]; omega)) _) | (refine Below.setCell ?_ (by first | (simp [World.setCell]; done) | (simp [World.setCell]; omega)) _) | refine Below.drew ?_)))⟩
    · have h1 : decide (k < 1) = false := by simp; omega
      have h2 : decide (11 < k) = true := by simp; omega
      clear hk
      go_enter Try.func26, Try.ntmps26
      go_wp2
      exact bodyPost_ret (v := .int .i64 2) (by simp [results, Try.results26, go_sem]) rfl ⟨rfl, by ((repeat (first | exact Below.refl _ _ | (refine Below.alloc ?_ (by first | (simp [World.setCell]; done) | (simp [World.setCell]; omega)) _) | (refine Below.setCell ?_ (by first | (simp [World.setCell]; done) | (simp [World.setCell]; omega)) _) | refine Below.drew ?_)))⟩

set_option maxRecDepth 100000 in
set_option maxHeartbeats 4000000 in
theorem rpush_ok (f : FrD) (vw vd : Value) (b B lim : Nat) (us : List Row) (vl : Value) (w : World) (h : RInv w b B lim us vl) (hw : WAt w vw f.ws) (hd : WAt w vd f.ds) (hsw : vw = .slice none 0 0 ∨ ∃ p n c, vw = .slice (some p) n c) (hsd : vd = .slice none 0 0 ∨ ∃ p n c, vd = .slice (some p) n c)
    (hc : chkK f.k f.o f.n f.s f.ws.length f.ds.length = true) (hb : takenOf us + f.takes ≤ lim) :
    Calls Try.prog 31 #[.pointer (some ⟨b, 0, none⟩), .agg #[.int .i64 f.k, .int .i64 f.o, .int .i64 f.n, .string f.s, vw, vd]] w fun e w' => e = .returned (.int .i64 0) ∧
      ∃ vl' vw' vd', RInv w' b B lim (us ++ [⟨f, vw', vd'⟩]) vl' ∧ (∀ k, Foot b vl' (us ++ [⟨f, vw', vd'⟩]) k → Foot b vl us k ∨ w.heap.size ≤ k) ∧ Off (Foot b vl us) w w' := by
  obtain ⟨i0, hi, hz0, hz1, hz2⟩ := info_parts infoF
  have hlim := h.lm
  have hlen := len_le_taken us
  have hnl : f.ws.length ≤ 4194304 := by unfold FrD.takes at hb; omega
  have hnd : f.ds.length ≤ 4194304 := by unfold FrD.takes at hb; omega
  have hns : f.s.size ≤ 100000000 := by unfold FrD.takes at hb; omega
  obtain ⟨aw, cw, rfl, hw'⟩ := hw
  obtain ⟨ad, cd, rfl, hd'⟩ := hd
  have kc := fun W => rcheck_any f.k f.o f.n f.s aw ad f.ws.length f.ds.length cw cd W
  rw [hc] at kc
  simp only [if_true] at kc
  have kt := fun W => rtakes_any f.k f.o f.n f.s aw ad f.ws.length f.ds.length cw cd W (by omega) (by omega) (by omega)
  have ko := fun W (hW : Below w.heap.size w W) => rown_any f (.slice aw f.ws.length cw) (.slice ad f.ds.length cd) W (WAt.below ⟨_, _, rfl, hw'⟩ hW (Nat.le_refl _)) (WAt.below ⟨_, _, rfl, hd'⟩ hW (Nat.le_refl _)) hsw hsd (by omega) (by omega)
  have KC := Lib.hid kc; have KO := Lib.hid ko
  obtain ⟨K, hK⟩ : ∃ K, 1 + f.ws.length + f.ds.length + (f.s.size + 7) / 8 = K := ⟨_, rfl⟩
  have hKf : f.takes = K := hK
  rw [hK] at kt
  have KT := Lib.hid kt
  rw [hKf] at hb
  obtain ⟨T, hT⟩ : ∃ T, takenOf us = T := ⟨_, rfl⟩
  have hS := h.blk
  rw [hT] at hb
  have H := Lib.hid h
  have HT := Lib.hid hT; have HK := Lib.hid hKf
  have HL := Lib.hid hlen
  clear kc kt ko hw' hd' hc h hT hKf hK hlen
  obtain ⟨k, o, n, s, ws, ds⟩ := f
  dsimp only at *
  obtain ⟨lw, hlw⟩ : ∃ l, ws.length = l := ⟨_, rfl⟩
  obtain ⟨ld, hld⟩ : ∃ l, ds.length = l := ⟨_, rfl⟩
  rw [hlw] at KC KO KT hnl ⊢
  rw [hld] at KC KO KT hnd ⊢
  have HLw := Lib.hid hlw; have HLd := Lib.hid hld
  clear hlw hld
  have HWr : Hid (IntKind.i64.wrap ((T : Int) + (K : Int)) = (T : Int) + (K : Int)) := Lib.hid (IntWalk.i64_in _ (by omega))
  go_enter Try.func31, Try.ntmps31
  go_upto_region 1 with fail
  generalize hW0 : w.alloc (Obj.cells #[.int .i64 k, .int .i64 o, .int .i64 n, .string s, .slice aw lw cw, .slice ad ld cd] 32) = W0
  have hbel : Below w.heap.size w W0 := by rw [← hW0]; ((repeat (first | exact Below.refl _ _ | (refine Below.alloc ?_ (by first | (simp [World.setCell]; done) | (simp [World.setCell]; omega)) _) | (refine Below.setCell ?_ (by first | (simp [World.setCell]; done) | (simp [World.setCell]; omega)) _) | refine Below.drew ?_)))
  have B0 : Blk W0 w.heap.size #[.int .i64 k, .int .i64 o, .int .i64 n, .string s, .slice aw lw cw, .slice ad ld cd] := by rw [← hW0]; exact Blk.new w _ _
  have S0 := hS.below hbel hS.lt
  clear hW0
  have c0 := B0.cell
  have s0 := S0.cell
  go_upto_region 6 with (first | (go_at_call 43; with_reducible refine (rnone_any b _ _ true _ S0).mono ?_; rintro e w1 ⟨rfl, hb1⟩; have B1 := B0.below hb1 B0.lt; have c1 := B1.cell; have l1 := hbel.trans (hb1.mono hbel.size)) | (go_at_call 26; with_reducible refine (KC.out _).mono ?_; rintro e w2 ⟨rfl, hb2⟩; have l2 := l1.trans (hb2.mono l1.size); have B2 := B1.below hb2 B1.lt))
  clear c0 s0 c1
  have S2 := hS.below l2 hS.lt
  have c2 := B2.cell
  have s2 := S2.cell
  go_cut [22] (fun s22 wx => s22 = .bool false ∧ Below w.heap.size w wx ∧ Blk wx w.heap.size #[.int .i64 k, .int .i64 o, .int .i64 n, .string s, .slice aw lw cw, .slice ad ld cd])
  case first =>
    go_region_with (first | (go_at_call 35; with_reducible refine (rtaken_any b B lim us vl w2.drew ((H.out.below l2).below (Below.refl _ _).drew)).mono ?_; rw [HT.out]; rintro e wt ⟨rfl, hbt⟩; have qt := below_of_drew hbt; have lt := l2.trans (qt.mono l2.size); have St := hS.below lt hS.lt; have st := St.cell; have Bt := B2.below qt B2.lt; have ct := Bt.cell) | (go_at_call 27; with_reducible refine (KT.out _).mono ?_; rintro e w3 ⟨rfl, hb3⟩; have l3 := lt.trans (hb3.mono lt.size); have B3 := Bt.below hb3 Bt.lt; have S3 := hS.below l3 hS.lt; have s3 := S3.cell))
    all_goals
      go_wp2
      go_meet
      exact ⟨by simp only [HWr.out]; simp; omega, l3, B3⟩
  case rest =>
    obtain ⟨rfl, l3, B3⟩ := hcut
    clear c2 s2 S2
    have S3 := hS.below l3 hS.lt
    have c3 := B3.cell
    have s3 := S3.cell
    go_upto_region 8 with fail
    go_cut [] (fun wx => ∃ g cap vw' vd' m, Blk wx b #[.bool true, .int .i64 lim, .slice (some ⟨g, 0, none⟩) (us.length + 1) cap] ∧ Blk wx w.heap.size #[.int .i64 k, .int .i64 o, .int .i64 n, .string s, .slice aw lw cw, .slice ad ld cd] ∧
      wx.ownsRow B 32 6 (.slice (some ⟨g, 0, none⟩) (us.length + 1) cap) (us.length + 1) (flatF us ++ Row.cells ⟨⟨k, o, n, s, ws, ds⟩, vw', vd'⟩) ∧ WOwn wx w.heap.size vw' ws ∧ WOwn wx m vd' ds ∧ w.heap.size ≤ m ∧ (∀ i, vw'.ownBlock = some i → i < m) ∧
      (vl.ownBlock = some g ∨ w.heap.size ≤ g) ∧ Off (fun i => i = b ∨ vl.ownBlock = some i) w wx)
    case first =>
      go_region_law (first | (refine step_append_lies _ (by rfl) _ _ _ (by rfl) B 32 i0 (.agg #[.int .i64 0, .int .i64 0, .int .i64 0, .string ⟨#[]⟩, .slice none 0 0, .slice none 0 0]) 6 88 Try.underlying29 hi hz0 hz1 hz2 rfl (by decide) vl us.length (flatF us) (by rfl) (R4.alloc _) ⟨w4.heap.size, 0, none⟩ 1 1 (Row.cells ⟨⟨k, o, n, s, ws, ds⟩, .slice p1 lw x1, .slice p2 ld x2⟩) (by rfl) (by rfl) (frame_news ⟨⟨k, o, n, s, ws, ds⟩, .slice p1 lw x1, .slice p2 ld x2⟩ w4) (by simp [Row.cells, Value.oneCell']) (by decide) (by have := HL.out; have := HT.out; unfold maxLen; omega) (by have := HL.out; have := HT.out; omega) (by have := H.out.sz; have := l4.size; simp; omega) _ rfl ?_; intro g cap w5 hown hgrow hat hlt; have S5 := (off_of_grown hgrow).blk (S4.alloc _) (fun e => by have := own_from H.out.row b e.symm; have := H.out.lt; omega); have s5 := S5.cell; have f5 := S5.free) | (go_simp; go_at_call 44; with_reducible refine (KO.out _ l3.drew).mono ?_; rintro e w4 ⟨v1, v2, m, rfl, o1, o2, m1, m2, m3, hb4⟩; obtain ⟨p1, x1, rfl⟩ := own_shape o1; obtain ⟨p2, x2, rfl⟩ := own_shape o2; rw [HLw.out] at *; rw [HLd.out] at *; rw [size_drew] at o1 m1; have q4 := below_of_drew hb4; have l4 := l3.trans (q4.mono l3.size); have S4 := hS.below l4 hS.lt; have s4 := S4.cell; have t4 := S4.lt; have B4 := B3.below q4 B3.lt; have c4 := B4.cell; have R4 := own_on H.out.row l4 (own_lt H.out.row)))
      all_goals
        go_wp2
        go_meet
        have vlt := own_lt H.out.row
        have blt := hS.lt
        have hBb := H.out.lt
        have G := off_of_grown hgrow
        have E := off_set (W := w5) (b := b) (i := 2) (v := .slice (some ⟨g, 0, none⟩) (us.length + 1) cap)
        have o1' := own_low o1 l3.size
        have hwc := l3.size
        have lX := (Off.of_below (S := fun _ => False) (l4.alloc l4.size _)).trans G (T := fun i => i = b ∨ vl.ownBlock = some i) (fun i h => h.elim) (fun i h => .inl (.inr h.symm))
        refine ⟨g, cap, .slice p1 lw x1, .slice p2 ld x2, m, S5.set 2 _ (by simp), ?_, ?_, ?_, ?_, Nat.le_trans hwc m1, m3, ?_, ?_⟩
        · exact E.blk (G.blk (B4.alloc _) (fun e => by have := vlt _ e.symm; omega)) (by omega)
        · exact E.own hown (fun g' hg' e => by have := own_from hown g' hg'; omega)
        · exact E.own (G.own (o1'.alloc _) (fun g' hg' e => by have := own_from o1' g' hg'; have := vlt g' e.symm; omega)) (fun g' hg' e => by have := own_from o1' g' hg'; omega)
        · exact E.own (G.own (o2.alloc _) (fun g' hg' e => by have := own_from o2 g' hg'; have := vlt g' e.symm; omega)) (fun g' hg' e => by have := own_from o2 g' hg'; omega)
        · rcases hat with e | e
          · exact .inl e
          · exact .inr (by rw [e, World.size_alloc]; have := l4.size; omega)
        · exact lX.trans E (fun i h => h) (fun i h => .inl (.inl h))
    case rest =>
      obtain ⟨g, cap, vw', vd', m, T8, P8, R8, o1, o2, hm, hm3, hg, hoff⟩ := hcut
      clear c3 s3 S3
      go_wp2
      have blt := hS.lt
      have hBb := H.out.lt
      refine bodyPost_ret (v := .int .i64 0) (by simp [results, Try.results31, go_sem]) rfl ⟨rfl, .slice (some ⟨g, 0, none⟩) (us.length + 1) cap, vw', vd', ?_⟩
      refine RInv.pushed (m := m) H.out ⟨⟨k, o, n, s, ws, ds⟩, vw', vd'⟩ T8 hoff.size R8 o1 o2 hm hm3 ?_ hoff ?_
      · intro g' hg'
        simp [Value.ownBlock] at hg'
        subst hg'
        exact hg
      · have h1 := HK.out
        have h2 := HT.out
        rw [h2]
        show T + FrD.takes ⟨k, o, n, s, ws, ds⟩ ≤ lim
        omega

set_option maxRecDepth 100000 in
set_option maxHeartbeats 4000000 in
theorem rpush_bad (f : FrD) (vw vd : Value) (b B lim : Nat) (us : List Row) (vl : Value) (w : World) (h : RInv w b B lim us vl) (hw : WAt w vw f.ws) (hd : WAt w vd f.ds)
    (hc : chkK f.k f.o f.n f.s f.ws.length f.ds.length = false) :
    Calls Try.prog 31 #[.pointer (some ⟨b, 0, none⟩), .agg #[.int .i64 f.k, .int .i64 f.o, .int .i64 f.n, .string f.s, vw, vd]] w fun e w' => e = .returned (.int .i64 2) ∧ Below w.heap.size w w' := by
  obtain ⟨aw, cw, rfl, hw'⟩ := hw
  obtain ⟨ad, cd, rfl, hd'⟩ := hd
  have kc := fun W => rcheck_any f.k f.o f.n f.s aw ad f.ws.length f.ds.length cw cd W
  rw [hc] at kc
  simp only [Bool.false_eq_true, if_false] at kc
  have KC := Lib.hid kc
  have hS := h.blk
  clear kc hw' hd' hc
  go_enter Try.func31, Try.ntmps31
  go_upto_region 1 with fail
  generalize hW0 : w.alloc (Obj.cells #[.int .i64 f.k, .int .i64 f.o, .int .i64 f.n, .string f.s, .slice aw f.ws.length cw, .slice ad f.ds.length cd] 32) = W0
  have hbel : Below w.heap.size w W0 := by rw [← hW0]; ((repeat (first | exact Below.refl _ _ | (refine Below.alloc ?_ (by first | (simp [World.setCell]; done) | (simp [World.setCell]; omega)) _) | (refine Below.setCell ?_ (by first | (simp [World.setCell]; done) | (simp [World.setCell]; omega)) _) | refine Below.drew ?_)))
  have B0 : Blk W0 w.heap.size #[.int .i64 f.k, .int .i64 f.o, .int .i64 f.n, .string f.s, .slice aw f.ws.length cw, .slice ad f.ds.length cd] := by rw [← hW0]; exact Blk.new w _ _
  have S0 := hS.below hbel hS.lt
  clear hW0
  have c0 := B0.cell
  go_wp2_with (first | (go_at_call 43; with_reducible refine (rnone_any b _ _ true _ S0).mono ?_; rintro e w1 ⟨rfl, hb1⟩; have B1 := B0.below hb1 B0.lt; have c1 := B1.cell; have l1 := hbel.trans (hb1.mono hbel.size)) | (go_at_call 26; with_reducible refine (KC.out _).mono ?_; rintro e w2 ⟨rfl, hb2⟩; have l2 := l1.trans (hb2.mono l1.size)))
  exact bodyPost_ret (v := .int .i64 2) (by simp [results, Try.results31, go_sem]) rfl ⟨rfl, l2⟩

set_option maxRecDepth 100000 in
set_option maxHeartbeats 4000000 in
theorem rpush_full (f : FrD) (vw vd : Value) (b B lim : Nat) (us : List Row) (vl : Value) (w : World) (h : RInv w b B lim us vl) (hw : WAt w vw f.ws) (hd : WAt w vd f.ds) (hnl : f.ws.length ≤ 1000000000) (hnd : f.ds.length ≤ 1000000000) (hns : f.s.size ≤ 1000000000)
    (hc : chkK f.k f.o f.n f.s f.ws.length f.ds.length = true) (hb : lim < takenOf us + f.takes) :
    Calls Try.prog 31 #[.pointer (some ⟨b, 0, none⟩), .agg #[.int .i64 f.k, .int .i64 f.o, .int .i64 f.n, .string f.s, vw, vd]] w fun e w' => e = .returned (.int .i64 12) ∧ Below w.heap.size w w' := by
  have hlim := h.lm
  have htk := h.tk
  obtain ⟨aw, cw, rfl, hw'⟩ := hw
  obtain ⟨ad, cd, rfl, hd'⟩ := hd
  have kc := fun W => rcheck_any f.k f.o f.n f.s aw ad f.ws.length f.ds.length cw cd W
  rw [hc] at kc
  simp only [if_true] at kc
  have kt := fun W => rtakes_any f.k f.o f.n f.s aw ad f.ws.length f.ds.length cw cd W (by omega) (by omega) (by omega)
  have KC := Lib.hid kc
  obtain ⟨K, hK⟩ : ∃ K, 1 + f.ws.length + f.ds.length + (f.s.size + 7) / 8 = K := ⟨_, rfl⟩
  have hKf : f.takes = K := hK
  have hKb : K ≤ 10000000000 := by omega
  rw [hK] at kt
  have KT := Lib.hid kt
  rw [hKf] at hb
  obtain ⟨T, hT⟩ : ∃ T, takenOf us = T := ⟨_, rfl⟩
  have hS := h.blk
  rw [hT] at hb htk
  have H := Lib.hid h; have HT := Lib.hid hT
  clear kc kt hw' hd' hc h hT hKf hK
  have HWr : Hid (IntKind.i64.wrap ((T : Int) + (K : Int)) = (T : Int) + (K : Int)) := Lib.hid (IntWalk.i64_in _ (by omega))
  go_enter Try.func31, Try.ntmps31
  go_upto_region 1 with fail
  generalize hW0 : w.alloc (Obj.cells #[.int .i64 f.k, .int .i64 f.o, .int .i64 f.n, .string f.s, .slice aw f.ws.length cw, .slice ad f.ds.length cd] 32) = W0
  have hbel : Below w.heap.size w W0 := by rw [← hW0]; ((repeat (first | exact Below.refl _ _ | (refine Below.alloc ?_ (by first | (simp [World.setCell]; done) | (simp [World.setCell]; omega)) _) | (refine Below.setCell ?_ (by first | (simp [World.setCell]; done) | (simp [World.setCell]; omega)) _) | refine Below.drew ?_)))
  have B0 : Blk W0 w.heap.size #[.int .i64 f.k, .int .i64 f.o, .int .i64 f.n, .string f.s, .slice aw f.ws.length cw, .slice ad f.ds.length cd] := by rw [← hW0]; exact Blk.new w _ _
  have S0 := hS.below hbel hS.lt
  clear hW0
  have c0 := B0.cell
  have s0 := S0.cell
  go_upto_region 6 with (first | (go_at_call 43; with_reducible refine (rnone_any b _ _ true _ S0).mono ?_; rintro e w1 ⟨rfl, hb1⟩; have B1 := B0.below hb1 B0.lt; have c1 := B1.cell; have l1 := hbel.trans (hb1.mono hbel.size)) | (go_at_call 26; with_reducible refine (KC.out _).mono ?_; rintro e w2 ⟨rfl, hb2⟩; have l2 := l1.trans (hb2.mono l1.size); have B2 := B1.below hb2 B1.lt))
  clear c0 s0 c1
  have S2 := hS.below l2 hS.lt
  have c2 := B2.cell
  have s2 := S2.cell
  go_cut [22] (fun s22 wx => s22 = .bool true ∧ Below w.heap.size w wx)
  case first =>
    go_region_with (first | (go_at_call 35; with_reducible refine (rtaken_any b B lim us vl w2.drew ((H.out.below l2).below (Below.refl _ _).drew)).mono ?_; rw [HT.out]; rintro e wt ⟨rfl, hbt⟩; have qt := below_of_drew hbt; have lt := l2.trans (qt.mono l2.size); have St := hS.below lt hS.lt; have st := St.cell; have Bt := B2.below qt B2.lt; have ct := Bt.cell) | (go_at_call 27; with_reducible refine (KT.out _).mono ?_; rintro e w3 ⟨rfl, hb3⟩; have l3 := lt.trans (hb3.mono lt.size); have S3 := hS.below l3 hS.lt; have s3 := S3.cell))
    all_goals
      go_wp2
      go_meet
      exact ⟨by simp only [HWr.out]; simp; omega, l3⟩
  case rest =>
    obtain ⟨rfl, l3⟩ := hcut
    go_wp2
    exact bodyPost_ret (v := .int .i64 12) (by simp [results, Try.results31, go_sem]) rfl ⟨rfl, l3⟩


end Go.Proofs.Ytmnadlgglmhfhaa
