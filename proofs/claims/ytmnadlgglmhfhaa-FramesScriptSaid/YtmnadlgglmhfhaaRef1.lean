/- Contracts of the reference's small functions (thunkmillref24): none, New, Takes, own, Len, Limit, Taken; and of the stack's Len, Limit. -/
import Derived.Test.YtmnadlgglmhfhaaRInv
namespace Go.Proofs.Ytmnadlgglmhfhaa
open Go.RowKit
set_option linter.unusedSimpArgs false

set_option maxHeartbeats 1000000 in
theorem rnone_any (b : Nat) (m v : Value) (made : Bool) (w : World) (h : Blk w b #[.bool made, m, v]) : Calls Try.prog 43 #[.pointer (some ⟨b, 0, none⟩)] w fun e w' => e = .returned (.bool (!made)) ∧ Below w.heap.size w w' := by
  have c0 := h.cell
  go_enter Try.func43, Try.ntmps43
  go_wp2
  exact bodyPost_ret (v := .bool (!made)) (by simp [results, Try.results43, go_sem]) rfl ⟨rfl, by ((repeat (first | exact Below.refl _ _ | (refine Below.alloc ?_ (by first | (simp [World.setCell]; done) | (simp [World.setCell]; omega)) _) | (refine Below.setCell ?_ (by first | (simp [World.setCell]; done) | (simp [World.setCell]; omega)) _) | refine Below.drew ?_)))⟩

set_option maxHeartbeats 1000000 in
theorem rnew_any (lim : Int) (w : World) (h : 0 ≤ lim ∧ lim ≤ 4194304) :
    Calls Try.prog 24 #[.int .i64 lim] w fun e w' => ∃ b, e = .returned (.tuple #[.pointer (some ⟨b, 0, none⟩), .int .i64 0]) ∧ Blk w' b #[.bool true, .int .i64 lim, .slice none 0 0] ∧ w.heap.size ≤ b ∧ Below w.heap.size w w' := by
  obtain ⟨h1, h2⟩ := h
  have d1 : decide (lim < 0) = false := by simp; omega
  have d2 : decide (4194304 < lim) = false := by simp; omega
  go_enter Try.func24, Try.ntmps24
  go_wp2
  exact bodyPost_ret (v := .tuple #[.pointer (some ⟨w.heap.size, 0, none⟩), .int .i64 0]) (by simp [results, Try.results24, go_sem]) rfl ⟨_, rfl, Blk.new _ _ _, Nat.le_refl _, by ((repeat (first | exact Below.refl _ _ | (refine Below.alloc ?_ (by first | (simp [World.setCell]; done) | (simp [World.setCell]; omega)) _) | (refine Below.setCell ?_ (by first | (simp [World.setCell]; done) | (simp [World.setCell]; omega)) _) | refine Below.drew ?_)))⟩

set_option maxHeartbeats 1000000 in
theorem rnew_bad (lim : Int) (w : World) (h : ¬ (0 ≤ lim ∧ lim ≤ 4194304)) :
    Calls Try.prog 24 #[.int .i64 lim] w fun e w' => e = .returned (.tuple #[.pointer none, .int .i64 2]) ∧ Below w.heap.size w w' := by
  by_cases h1 : lim < 0
  · have d1 : decide (lim < 0) = true := by simp; omega
    clear h
    go_enter Try.func24, Try.ntmps24
    go_wp2
    exact bodyPost_ret (v := .tuple #[.pointer none, .int .i64 2]) (by simp [results, Try.results24, go_sem]) rfl ⟨rfl, by ((repeat (first | exact Below.refl _ _ | (refine Below.alloc ?_ (by first | (simp [World.setCell]; done) | (simp [World.setCell]; omega)) _) | (refine Below.setCell ?_ (by first | (simp [World.setCell]; done) | (simp [World.setCell]; omega)) _) | refine Below.drew ?_)))⟩
  · have d1 : decide (lim < 0) = false := by simp; omega
    have d2 : decide (4194304 < lim) = true := by simp; omega
    clear h
    go_enter Try.func24, Try.ntmps24
    go_wp2
    exact bodyPost_ret (v := .tuple #[.pointer none, .int .i64 2]) (by simp [results, Try.results24, go_sem]) rfl ⟨rfl, by ((repeat (first | exact Below.refl _ _ | (refine Below.alloc ?_ (by first | (simp [World.setCell]; done) | (simp [World.setCell]; omega)) _) | (refine Below.setCell ?_ (by first | (simp [World.setCell]; done) | (simp [World.setCell]; omega)) _) | refine Below.drew ?_)))⟩

set_option maxHeartbeats 1000000 in
theorem rtakes_any (k o n : Int) (s : ByteArray) (a1 a2 : Option Addr) (l1 l2 c1 c2 : Nat) (w : World) (h1 : l1 ≤ 1000000000000) (h2 : l2 ≤ 1000000000000) (h3 : s.size ≤ 1000000000000) :
    Calls Try.prog 27 #[.agg #[.int .i64 k, .int .i64 o, .int .i64 n, .string s, .slice a1 l1 c1, .slice a2 l2 c2]] w fun e w' => e = .returned (.int .i64 ((1 + l1 + l2 + (s.size + 7) / 8 : Nat) : Int)) ∧ Below w.heap.size w w' := by
  go_enter Try.func27, Try.ntmps27
  go_wp2
  refine bodyPost_ret (v := .int .i64 ((1 + l1 + l2 + (s.size + 7) / 8 : Nat) : Int)) (by simp [results, Try.results27, go_sem]; try omega) rfl ⟨rfl, by ((repeat (first | exact Below.refl _ _ | (refine Below.alloc ?_ (by first | (simp [World.setCell]; done) | (simp [World.setCell]; omega)) _) | (refine Below.setCell ?_ (by first | (simp [World.setCell]; done) | (simp [World.setCell]; omega)) _) | refine Below.drew ?_)))⟩

set_option maxHeartbeats 1000000 in
theorem len_any (b B lim : Nat) (us : List Row) (vl : Value) (w : World) (h : SInv w b B lim us vl) :
    Calls Try.prog 33 #[.pointer (some ⟨b, 0, none⟩)] w fun e w' => e = .returned (.int .i64 us.length) ∧ Below w.heap.size w w' := by
  have hS := h.blk
  obtain ⟨p, c, rfl⟩ := own_shape h.row
  clear h
  go_enter Try.func33, Try.ntmps33
  go_wp2_with (go_at_call 40; with_reducible refine (none_any b _ _ _ true _ hS).mono ?_; rintro e w1 ⟨rfl, hb1⟩; have S1 := hS.below hb1 hS.lt; have s1 := S1.cell)
  exact bodyPost_ret (v := .int .i64 us.length) (by simp [results, Try.results33, go_sem]) rfl ⟨rfl, hb1⟩

set_option maxHeartbeats 1000000 in
theorem limit_any (b B lim : Nat) (us : List Row) (vl : Value) (w : World) (h : SInv w b B lim us vl) :
    Calls Try.prog 36 #[.pointer (some ⟨b, 0, none⟩)] w fun e w' => e = .returned (.int .i64 lim) ∧ Below w.heap.size w w' := by
  have hS := h.blk
  clear h
  go_enter Try.func36, Try.ntmps36
  go_wp2_with (go_at_call 40; with_reducible refine (none_any b _ _ _ true _ hS).mono ?_; rintro e w1 ⟨rfl, hb1⟩; have S1 := hS.below hb1 hS.lt; have s1 := S1.cell)
  exact bodyPost_ret (v := .int .i64 lim) (by simp [results, Try.results36, go_sem]) rfl ⟨rfl, hb1⟩

set_option maxHeartbeats 1000000 in
theorem rlen_any (b B lim : Nat) (us : List Row) (vl : Value) (w : World) (h : RInv w b B lim us vl) :
    Calls Try.prog 34 #[.pointer (some ⟨b, 0, none⟩)] w fun e w' => e = .returned (.int .i64 us.length) ∧ Below w.heap.size w w' := by
  have hS := h.blk
  obtain ⟨p, c, rfl⟩ := own_shape h.row
  clear h
  go_enter Try.func34, Try.ntmps34
  go_wp2_with (go_at_call 43; with_reducible refine (rnone_any b _ _ true _ hS).mono ?_; rintro e w1 ⟨rfl, hb1⟩; have S1 := hS.below hb1 hS.lt; have s1 := S1.cell)
  exact bodyPost_ret (v := .int .i64 us.length) (by simp [results, Try.results34, go_sem]) rfl ⟨rfl, hb1⟩

set_option maxHeartbeats 1000000 in
theorem rlimit_any (b B lim : Nat) (us : List Row) (vl : Value) (w : World) (h : RInv w b B lim us vl) :
    Calls Try.prog 37 #[.pointer (some ⟨b, 0, none⟩)] w fun e w' => e = .returned (.int .i64 lim) ∧ Below w.heap.size w w' := by
  have hS := h.blk
  clear h
  go_enter Try.func37, Try.ntmps37
  go_wp2_with (go_at_call 43; with_reducible refine (rnone_any b _ _ true _ hS).mono ?_; rintro e w1 ⟨rfl, hb1⟩; have S1 := hS.below hb1 hS.lt; have s1 := S1.cell)
  exact bodyPost_ret (v := .int .i64 lim) (by simp [results, Try.results37, go_sem]) rfl ⟨rfl, hb1⟩

theorem taken_take {us : List Row} {k : Nat} (h : k < us.length) : takenOf (us.take (k + 1)) = takenOf (us.take k) + us[k].f.takes := by
  rw [take_succ h, takenOf_append, takenOf_one]
theorem taken_le (us : List Row) (k : Nat) : takenOf (us.take k) ≤ takenOf us := by
  have h : takenOf us = takenOf (us.take k) + takenOf (us.drop k) := by rw [← takenOf_append, List.take_append_drop]
  omega

set_option maxRecDepth 100000 in
set_option maxHeartbeats 2000000 in
theorem rtaken_any (b B lim : Nat) (us : List Row) (vl : Value) (w : World) (h : RInv w b B lim us vl) :
    Calls Try.prog 35 #[.pointer (some ⟨b, 0, none⟩)] w fun e w' => e = .returned (.int .i64 (takenOf us : Nat)) ∧ Below w.heap.size w w' := by
  have htk := h.tk
  have hlm := h.lm
  have H := Lib.hid h
  have hS := h.blk
  obtain ⟨pv, cv, rfl⟩ := own_shape h.row
  have hus := len_le_taken us
  clear h
  obtain ⟨N, hN⟩ : ∃ n, us.length = n := ⟨_, rfl⟩
  have HN := Lib.hid hN
  rw [hN] at hus hS H
  clear hN
  go_enter Try.func35, Try.ntmps35
  go_wp2
  go_loopw [3, 4] (fun t i wr => ∃ k : Nat, i = .int .i64 k ∧ k ≤ N ∧ t = .int .i64 (takenOf (us.take k) : Nat) ∧ Below w.heap.size w wr) (fun _ i _ => N - (intOf i).toNat)
  case atStart => exact ⟨0, rfl, Nat.zero_le _, rfl, Below.refl _ _⟩
  case round =>
    obtain ⟨k, rfl, hk, rfl, hb⟩ := hrel
    have I := H.out.below hb
    have klen := rlen_any b B lim us _ wr I
    rw [HN.out] at klen
    by_cases hlt : k < N
    · have hkl : k < us.length := by rw [HN.out]; exact hlt
      have tt := taken_take hkl
      have tl := taken_le us (k + 1)
      have hr := I.row
      rw [← HN.out] at hr
      obtain ⟨g, rfl, hg, hc⟩ := own_row_cells hr k hkl
      obtain ⟨u, hu⟩ : ∃ u, us[k] = u := ⟨_, rfl⟩
      rw [hu] at hc tt
      have hwr := I.wrd u (by rw [← hu]; exact List.getElem_mem _)
      obtain ⟨f, uw, ud⟩ := u
      dsimp only at hwr tt
      obtain ⟨aw, cw, rfl⟩ := own_shape hwr.1
      obtain ⟨ad, cd, rfl⟩ := own_shape hwr.2
      have hft : f.takes = 1 + f.ws.length + f.ds.length + (f.s.size + 7) / 8 := rfl
      have hltI : (k : Int) < (N : Int) := by omega
      have Htt := Lib.hid tt; have HI := Lib.hid I; have KL := Lib.hid klen; have Hc := Lib.hid hc; have Hft := Lib.hid hft
      have hb1 : f.ws.length ≤ 4194304 ∧ f.ds.length ≤ 4194304 ∧ f.s.size ≤ 100000000 := by omega
      have hwT : Hid (IntKind.i64.wrap ((takenOf (us.take k) : Int) + ((1 + f.ws.length + f.ds.length + (f.s.size + 7) / 8 : Nat) : Int)) = ((takenOf (us.take (k + 1)) : Nat) : Int)) := by
        refine Lib.hid ?_
        rw [tt, hft, Int.natCast_add]
        exact IntWalk.i64_in _ (by omega)
      obtain ⟨T, hT⟩ : ∃ z, takenOf (us.take k) = z := ⟨_, rfl⟩
      rw [hT] at hwT ⊢
      have hTb : T ≤ 4194304 := by have := taken_le us k; omega
      clear tt I klen hc hwr hr hft hu tl hT
      go_wp2_with (first | (go_at_call 34; with_reducible refine KL.out.mono ?_; rintro e w1 ⟨rfl, hb1⟩; have S1 := hS.below (hb.trans (hb1.mono hb.size)) hS.lt; have s1 := S1.cell; have c1 := fun i c hi => (hb1.cell (p := ⟨g, k * 6 + i, none⟩) hg).trans (Hc.out i c hi); have r0 := c1 0 _ rfl; have r1 := c1 1 _ rfl; have r2 := c1 2 _ rfl; have r3 := c1 3 _ rfl; have r4 := c1 4 _ rfl; have r5 := c1 5 _ rfl; rw [Nat.add_zero] at r0; clear c1) | (go_at_call 27; with_reducible refine (rtakes_any f.k f.o f.n f.s aw ad f.ws.length f.ds.length cw cd _ (by omega) (by omega) (by omega)).mono ?_; rintro e w2 ⟨rfl, hb2⟩))
      go_roundw
      case rel =>
        refine ⟨k + 1, by go_num, by omega, ?_, (hb.trans (hb1.mono hb.size)).trans (hb2.mono (hb.trans (hb1.mono hb.size)).size)⟩
        rw [← hwT.out]
        congr 1
        rw [IntWalk.i64_in _ (by omega)]
        push_cast
        rfl
      case measure => simp [intOf]; omega
    · have hkN : k = N := by omega
      subst hkN
      have e0 : us.take k = us := by rw [← HN.out, List.take_length]
      rw [e0]
      have KL := Lib.hid klen
      clear klen I e0
      go_wp2_with (go_at_call 34; with_reducible refine KL.out.mono ?_; rintro e w1 ⟨rfl, hb1⟩)
      go_ret
      exact ⟨rfl, hb.trans (hb1.mono hb.size)⟩

set_option maxRecDepth 100000 in
set_option maxHeartbeats 2000000 in
theorem rown_any (f : FrD) (vw vd : Value) (w : World) (hw : WAt w vw f.ws) (hd : WAt w vd f.ds) (sw : vw = .slice none 0 0 ∨ ∃ p n c, vw = .slice (some p) n c) (sd : vd = .slice none 0 0 ∨ ∃ p n c, vd = .slice (some p) n c) (hlw : f.ws.length ≤ 1000000000000) (hld : f.ds.length ≤ 1000000000000) :
    Calls Try.prog 44 #[.agg #[.int .i64 f.k, .int .i64 f.o, .int .i64 f.n, .string f.s, vw, vd]] w fun e w' => ∃ vw' vd' m, e = .returned (.agg #[.int .i64 f.k, .int .i64 f.o, .int .i64 f.n, .string f.s, vw', vd']) ∧
      WOwn w' w.heap.size vw' f.ws ∧ WOwn w' m vd' f.ds ∧ w.heap.size ≤ m ∧ m ≤ w'.heap.size ∧ (∀ b, vw'.ownBlock = some b → b < m) ∧ Below w.heap.size w w' := by
  obtain ⟨i0, hi, hz0, hz1, hz2⟩ := info_parts infoW
  have Hw := Lib.hid hw; have Hd := Lib.hid hd
  obtain ⟨aw, cw, rfl, _⟩ := hw
  obtain ⟨ad, cd, rfl, _⟩ := hd
  go_enter Try.func44, Try.ntmps44
  go_upto_region 1 with fail
  generalize hW0 : (w.alloc (Obj.cells #[.int .i64 f.k, .int .i64 f.o, .int .i64 f.n, .string f.s, .slice aw f.ws.length cw, .slice ad f.ds.length cd] 32)).alloc (Obj.cells #[.int .i64 0, .int .i64 0, .int .i64 0, .string { data := #[] }, .slice none 0 0, .slice none 0 0] 32) = W0
  have hsz : W0.heap.size = w.heap.size + 2 := by rw [← hW0]; simp
  have HSz := Lib.hid hsz
  have b0 : Below w.heap.size w W0 := by rw [← hW0]; exact ((Below.refl _ w).alloc (Nat.le_refl _) _).alloc (by simp) _
  have B0 : Blk W0 w.heap.size #[.int .i64 f.k, .int .i64 f.o, .int .i64 f.n, .string f.s, .slice aw f.ws.length cw, .slice ad f.ds.length cd] := by rw [← hW0]; exact (Blk.new w _ _).alloc _
  have Z0 : Blk W0 (w.heap.size + 1) #[.int .i64 0, .int .i64 0, .int .i64 0, .string { data := #[] }, .slice none 0 0, .slice none 0 0] := by rw [← hW0]; have h := Blk.new (w.alloc (Obj.cells #[.int .i64 f.k, .int .i64 f.o, .int .i64 f.n, .string f.s, .slice aw f.ws.length cw, .slice ad f.ds.length cd] 32)) #[.int .i64 0, .int .i64 0, .int .i64 0, .string { data := #[] }, .slice none 0 0, .slice none 0 0] 32; rwa [World.size_alloc] at h
  clear hW0 hsz
  have c0 := B0.cell
  have f0 := B0.free
  have t0 := B0.lt
  go_cut [] (fun wx => ∃ p c, WOwn wx (w.heap.size + 2) (.slice p f.ws.length c) f.ws ∧ Blk wx w.heap.size #[.int .i64 f.k, .int .i64 f.o, .int .i64 f.n, .string f.s, .slice p f.ws.length c, .slice ad f.ds.length cd] ∧
    Blk wx (w.heap.size + 1) #[.int .i64 0, .int .i64 0, .int .i64 0, .string { data := #[] }, .slice none 0 0, .slice none 0 0] ∧ Below w.heap.size w wx)
  case first =>
    go_wp2_with (at_builtin; refine append_words rfl _ _ 30 rfl i0 Try.underlying30 hi hz0 hz1 hz2 W0.heap.size W0.heap.size rfl (World.ownsRow_made _ #[] 0 (Nat.le_refl _) (Nat.zero_le _) (by simp)) (by simp) _ rfl f.ws ?qw sw ?ql ?_)
    case qw => exact (Hw.out.below b0 (Nat.le_refl _)).below (B := W0.heap.size) (by ((repeat (first | exact Below.refl _ _ | (refine Below.alloc ?_ (by first | (simp [World.setCell]; done) | (simp [World.setCell]; omega)) _) | (refine Below.setCell ?_ (by first | (simp [World.setCell]; done) | (simp [World.setCell]; omega)) _) | refine Below.drew ?_)))) (Nat.le_refl _)
    case ql => omega
    intro v' w2 o2 g2 p c e2
    subst e2
    have G2 := off_of_grown g2
    have hsz := HSz.out
    have B2 := G2.blk (B0.alloc _) (fun e => by simp at e; omega)
    have Z2 := G2.blk (Z0.alloc _) (fun e => by simp at e; omega)
    have c2 := B2.cell
    have f2 := B2.free
    clear c0 f0 hsz
    go_wp2
    go_meet
    have hsz := HSz.out
    have E2 := off_set (W := w2) (b := w.heap.size) (i := 4) (v := .slice p f.ws.length c)
    refine ⟨p, c, E2.own (own_low o2 (by omega)) (fun g hg e => by have := own_from o2 g hg; omega), B2.set 4 _ (by simp), E2.blk Z2 (by omega), ?_⟩
    exact ((b0.alloc b0.size _).trans (G2.below (by simp; omega) (fun i e => by simp at e; omega))).trans (E2.below (by have := B2.lt; omega) (fun i e => by omega))
  case rest =>
    obtain ⟨p, c, o2, B2, Z2, b2⟩ := hcut
    clear c0 f0 t0 B0 Z0 b0
    have c2 := B2.cell
    have f2 := B2.free
    have t2 := B2.lt
    go_upto_region 2 with fail
    go_cut [] (fun wx => ∃ q e m, WOwn wx (w.heap.size + 2) (.slice p f.ws.length c) f.ws ∧ WOwn wx m (.slice q f.ds.length e) f.ds ∧ w.heap.size + 2 ≤ m ∧ m ≤ wx.heap.size ∧ (∀ b, (Value.slice p f.ws.length c).ownBlock = some b → b < m) ∧
      Blk wx w.heap.size #[.int .i64 f.k, .int .i64 f.o, .int .i64 f.n, .string f.s, .slice p f.ws.length c, .slice q f.ds.length e] ∧ Blk wx (w.heap.size + 1) #[.int .i64 0, .int .i64 0, .int .i64 0, .string { data := #[] }, .slice none 0 0, .slice none 0 0] ∧ Below w.heap.size w wx)
    case first =>
      go_wp2_with (at_builtin; refine append_words rfl _ _ 30 rfl i0 Try.underlying30 hi hz0 hz1 hz2 wc.heap.size wc.heap.size rfl (World.ownsRow_made _ #[] 0 (Nat.le_refl _) (Nat.zero_le _) (by simp)) (by simp) _ rfl f.ds ?qw sd ?ql ?_)
      case qw => exact (Hd.out.below b2 (Nat.le_refl _)).below (B := wc.heap.size) (by ((repeat (first | exact Below.refl _ _ | (refine Below.alloc ?_ (by first | (simp [World.setCell]; done) | (simp [World.setCell]; omega)) _) | (refine Below.setCell ?_ (by first | (simp [World.setCell]; done) | (simp [World.setCell]; omega)) _) | refine Below.drew ?_)))) (Nat.le_refl _)
      case ql => omega
      intro v' w3 o3 g3 q e e3
      subst e3
      have G3 := off_of_grown g3
      have t3 := Z2.lt
      have B3 := G3.blk (B2.alloc _) (fun e => by simp at e; omega)
      have Z3 := G3.blk (Z2.alloc _) (fun e => by simp at e; omega)
      have c3 := B3.cell
      have f3 := B3.free
      clear c2 f2
      go_wp2
      go_meet
      have E3 := off_set (W := w3) (b := w.heap.size) (i := 5) (v := .slice q f.ds.length e)
      refine ⟨q, e, wc.heap.size, E3.own (G3.own (o2.alloc _) (fun g hg e => by have := own_lt o2 g hg; simp at e; omega)) (fun g hg e => by have := own_from o2 g hg; omega), E3.own o3 (fun g hg e => by have := own_from o3 g hg; omega), by omega, ?_, own_lt o2, B3.set 5 _ (by simp), E3.blk Z3 (by omega), ?_⟩
      · have := G3.size; simp [World.setCell] at this ⊢; omega
      · exact ((b2.alloc b2.size _).trans (G3.below (by simp; omega) (fun i e => by simp at e; omega))).trans (E3.below (by have := B3.lt; omega) (fun i e => by omega))
    case rest =>
      obtain ⟨q, e, m, o3, o4, hm1, hm2, hm3, B3, Z3, b3⟩ := hcut
      clear c2 f2 t2 B2 Z2 b2 o2
      have O6 := fun u0 u1 u2 u3 u4 u5 => ((((((Only.refl (w.heap.size + 1) wc).set 0 u0).set 1 u1).set 2 u2).set 3 u3).set 4 u4).set 5 u5
      have O6 := O6 (.int .i64 f.k) (.int .i64 f.o) (.int .i64 f.n) (.string f.s) (.slice p f.ws.length c) (.slice q f.ds.length e)
      have x0 := B3.cell; have y0 := B3.free; have x1 := Z3.cell; have y1 := Z3.free
      go_wp2
      refine bodyPost_ret (v := .agg #[.int .i64 f.k, .int .i64 f.o, .int .i64 f.n, .string f.s, .slice p f.ws.length c, .slice q f.ds.length e]) (by simp [results, Try.results44, go_sem, x1]) rfl ⟨_, _, m, rfl, ?_, ?_, by omega, ?_, hm3, ?_⟩
      · exact O6.own (own_low o3 (by omega)) (fun e => by have := own_from o3 _ e; omega)
      · exact O6.own o4 (fun e => by have := own_from o4 _ e; omega)
      · rw [O6.size]; exact hm2
      · exact b3.trans (O6.below (by omega))

end Go.Proofs.Ytmnadlgglmhfhaa
