/- The contracts of Layout, place, Read, stands, value, Get. -/
import Derived.Test.YtlmljommgmbckaaHpC
namespace Go.Proofs.Ytlmljommgmbckaa
open Go.RowKit
set_option linter.unusedSimpArgs false

/-- It hands back a bool. -/
def IsB (e : Ending) : Prop := ∃ r : Bool, e = .returned (.bool r)
theorem isB_elim {e : Ending} (h : IsB e) : ∃ r : Bool, e = .returned (.bool r) := h
theorem isB_ret (r : Bool) : IsB (.returned (.bool r)) := ⟨r, rfl⟩
theorem below_drewN' {B : Nat} (w : World) (n : Nat) (hB : B ≤ w.heap.size) : Below B w (w.drewN n) := (below_drewN w n).mono hB

set_option maxRecDepth 100000 in
set_option maxHeartbeats 1000000 in
theorem layout_any (b : Nat) (L : HL) (H : HS) (w : World) (h : HInv w b L H) : Calls Try.prog 15 #[.pointer (some ⟨b, 0, none⟩)] w fun e w' => e = .returned (.agg #[.int .i64 H.nur, .int .i64 H.old, .int .i64 0, .int .i64 H.top, .int .i64 0]) ∧ Below w.heap.size w w' := by
  have kn := fun W hb => none_any b L H W (h.below hb)
  have KN := Lib.hid kn
  have c := h.blk.cell
  unfold HL.cells at c
  have hlt := h.blk.lt
  have ce := fun j (o : Obj) => (Below.refl w.heap.size w |>.alloc (Nat.le_refl _) o).cell (p := ⟨b, j, none⟩) hlt
  obtain ⟨N, hN⟩ : ∃ N, H.ws.length = N := ⟨_, rfl⟩
  rw [hN] at c
  clear kn h hN
  go_enter Try.func15, Try.ntmps15
  go_wp2_with (go_at_call 38; with_reducible refine (KN.out _ ?_).mono ?_; exact ((Below.refl _ _).alloc (Nat.le_refl _) _); rintro e w1 ⟨rfl, rfl⟩)
  exact bodyPost_ret (v := .agg #[.int .i64 H.nur, .int .i64 H.old, .int .i64 0, .int .i64 H.top, .int .i64 0]) (by simp [results, Try.results15, go_sem]) rfl ⟨rfl, by ((repeat (first | exact Below.refl _ _ | (refine Below.alloc ?_ (by first | (simp [World.setCell]; done) | (simp [World.setCell]; omega)) _) | (refine Below.setCell ?_ (by first | (simp [World.setCell]; done) | (simp [World.setCell]; omega)) _) | refine Below.drew ?_)))⟩

set_option maxRecDepth 100000 in
set_option maxHeartbeats 1000000 in
theorem place_ok (b : Nat) (L : HL) (H : HS) (w : World) (h : HInv w b L H) (i : Nat) (hi : i < H.ws.length) : Calls Try.prog 51 #[.pointer (some ⟨b, 0, none⟩), .int .i64 i] w fun e w' => e = .returned (.int .i64 0) ∧ w' = w := by
  have kn := none_any b L H w h
  have KN := Lib.hid kn
  have c := h.blk.cell
  unfold HL.cells at c
  obtain ⟨N, hN⟩ : ∃ N, H.ws.length = N := ⟨_, rfl⟩
  rw [hN] at c hi
  have hd : decide ((i : Int) < 0) = false := by simp
  have he : decide ((N : Int) ≤ (i : Int)) = false := by simp; omega
  clear kn h hN
  go_enter Try.func51, Try.ntmps51
  go_wp2_with (go_at_call 38; with_reducible refine KN.out.mono ?_; rintro e w1 ⟨rfl, rfl⟩)
  go_ret
  exact ⟨rfl, rfl⟩

set_option maxRecDepth 100000 in
set_option maxHeartbeats 1000000 in
theorem read_ok (b : Nat) (L : HL) (H : HS) (w : World) (h : HInv w b L H) (i : Nat) (hi : i < H.ws.length) : Calls Try.prog 33 #[.pointer (some ⟨b, 0, none⟩), .int .i64 i] w fun e w' => e = .returned (.tuple #[.agg #[.int .i64 (H.word i).1, .int .i64 (H.word i).2], .int .i64 0]) ∧ Below w.heap.size w w' := by
  have kp := fun W hb => place_ok b L H W (h.below hb) i hi
  have KP := Lib.hid kp
  have c := h.blk.cell
  unfold HL.cells at c
  obtain ⟨d1, d2⟩ := h.cell hi
  have hlt := h.blk.lt
  have hlg := h.wd.lt
  obtain ⟨N, hN⟩ : ∃ N, H.ws.length = N := ⟨_, rfl⟩
  rw [hN] at c hi
  obtain ⟨x, hx⟩ : ∃ x, H.word i = x := ⟨_, rfl⟩
  rw [hx] at d1 d2 ⊢
  have hiI : (i : Int) < (N : Int) := by omega
  clear kp h hN hx
  go_enter Try.func33, Try.ntmps33
  go_wp2_with (go_at_call 51; with_reducible refine (KP.out _ ?_).mono ?_; exact ((Below.refl _ _).alloc (Nat.le_refl _) _); rintro e w1 ⟨rfl, rfl⟩)
  exact bodyPost_ret (v := .tuple #[.agg #[.int .i64 x.1, .int .i64 x.2], .int .i64 0]) (by simp [results, Try.results33, go_sem]) rfl ⟨rfl, by ((repeat (first | exact Below.refl _ _ | (refine Below.alloc ?_ (by first | (simp [World.setCell]; done) | (simp [World.setCell]; omega)) _) | (refine Below.setCell ?_ (by first | (simp [World.setCell]; done) | (simp [World.setCell]; omega)) _) | refine Below.drew ?_)))⟩

/-- Which words may stand in an object. -/
def standsK (H : HS) (k n : Int) : Bool :=
  if k = 0 then true else if k = 1 then true else if k = 2 then decide (0 ≤ n) && decide (n ≤ 255) else if k = 3 then decide (0 ≤ n) else if k = 4 then decide (0 ≤ n) && decide (n < H.ng) else if k = 5 then (headOf H n).ok else false
def valueK (H : HS) (k n : Int) : Bool := if k = 0 then false else if standsK H k n = false then false else if k = 5 then decide ((headOf H n).k < 5) else true

set_option maxRecDepth 100000 in
set_option maxHeartbeats 2000000 in
theorem stands_any (b : Nat) (L : HL) (H : HS) (w : World) (h : HInv w b L H) (k n : Int) (h1 : -9223372036854775808 ≤ n) (h2 : n ≤ 9223372036854775807) :
    Calls Try.prog 41 #[.pointer (some ⟨b, 0, none⟩), .agg #[.int .i64 k, .int .i64 n]] w fun e w' => e = .returned (.bool (standsK H k n)) ∧ Below w.heap.size w w' := by
  have kh := fun W hb => head_at b L H W (h.below hb) n h1 h2
  have KH := Lib.hid kh
  have c := h.blk.cell
  unfold HL.cells at c
  obtain ⟨vp, vc, hvg⟩ := h.vg
  rw [hvg] at c
  have hlt := h.blk.lt
  obtain ⟨N, hN⟩ : ∃ N, H.ws.length = N := ⟨_, rfl⟩
  rw [hN] at c
  clear kh h hN hvg
  by_cases k4 : k = 4
  · subst k4
    by_cases c0 : 0 ≤ n
    · have d0 : decide (0 ≤ n) = true := by simpa using c0
      go_enter Try.func41, Try.ntmps41
      go_upto_region 10 with fail
      go_quiet (fail)
      all_goals
        go_wp2
        go_ret
        refine ⟨?_, by (first | (((repeat (first | exact Below.refl _ _ | (refine Below.alloc ?_ (by first | (simp [World.setCell]; done) | (simp [World.setCell]; omega)) _) | (refine Below.setCell ?_ (by first | (simp [World.setCell]; done) | (simp [World.setCell]; omega)) _) | refine Below.drew ?_))); done) | (refine Below.trans ?_ (below_drewN (_ : World) _ |>.mono ?_) <;> first | (((repeat (first | exact Below.refl _ _ | (refine Below.alloc ?_ (by first | (simp [World.setCell]; done) | (simp [World.setCell]; omega)) _) | (refine Below.setCell ?_ (by first | (simp [World.setCell]; done) | (simp [World.setCell]; omega)) _) | refine Below.drew ?_))); done) | (simp; done)))⟩
        clear KH c
        first | (simp_all [standsK]; done) | (simp_all [standsK]; omega) | (simp_all [standsK]; trace_state; fail)
    · have d0 : decide (0 ≤ n) = false := by simp; omega
      go_enter Try.func41, Try.ntmps41
      go_upto_region 10 with fail
      go_quiet (fail)
      all_goals
        go_wp2
        go_ret
        refine ⟨?_, by (first | (((repeat (first | exact Below.refl _ _ | (refine Below.alloc ?_ (by first | (simp [World.setCell]; done) | (simp [World.setCell]; omega)) _) | (refine Below.setCell ?_ (by first | (simp [World.setCell]; done) | (simp [World.setCell]; omega)) _) | refine Below.drew ?_))); done) | (refine Below.trans ?_ (below_drewN (_ : World) _ |>.mono ?_) <;> first | (((repeat (first | exact Below.refl _ _ | (refine Below.alloc ?_ (by first | (simp [World.setCell]; done) | (simp [World.setCell]; omega)) _) | (refine Below.setCell ?_ (by first | (simp [World.setCell]; done) | (simp [World.setCell]; omega)) _) | refine Below.drew ?_))); done) | (simp; done)))⟩
        clear KH c
        first | (simp_all [standsK]; done) | (simp_all [standsK]; omega) | (simp_all [standsK]; trace_state; fail)
  · go_enter Try.func41, Try.ntmps41
    go_wp2_with (go_at_call 48; with_reducible refine (KH.out _ ?_).mono ?_; exact ((Below.refl _ _).alloc (Nat.le_refl _) _); rintro e w1 ⟨rfl, nd, rfl⟩)
    all_goals
      go_ret
      refine ⟨?_, by (first | (((repeat (first | exact Below.refl _ _ | (refine Below.alloc ?_ (by first | (simp [World.setCell]; done) | (simp [World.setCell]; omega)) _) | (refine Below.setCell ?_ (by first | (simp [World.setCell]; done) | (simp [World.setCell]; omega)) _) | refine Below.drew ?_))); done) | (refine Below.trans ?_ (below_drewN (_ : World) _ |>.mono ?_) <;> first | (((repeat (first | exact Below.refl _ _ | (refine Below.alloc ?_ (by first | (simp [World.setCell]; done) | (simp [World.setCell]; omega)) _) | (refine Below.setCell ?_ (by first | (simp [World.setCell]; done) | (simp [World.setCell]; omega)) _) | refine Below.drew ?_))); done) | (simp; done)))⟩
      clear KH c
      first | (simp_all [standsK]; done) | (simp_all [standsK]; omega) | (simp_all [standsK]; trace_state; fail)

set_option maxRecDepth 100000 in
set_option maxHeartbeats 2000000 in
theorem value_any (b : Nat) (L : HL) (H : HS) (w : World) (h : HInv w b L H) (k n : Int) (h1 : -9223372036854775808 ≤ n) (h2 : n ≤ 9223372036854775807) :
    Calls Try.prog 42 #[.pointer (some ⟨b, 0, none⟩), .agg #[.int .i64 k, .int .i64 n]] w fun e w' => e = .returned (.bool (valueK H k n)) ∧ Below w.heap.size w w' := by
  have kh := fun W hb => head_at b L H W (h.below hb) n h1 h2
  have ks := fun W hb => stands_any b L H W (h.below hb) k n h1 h2
  have KH := Lib.hid kh; have KS := Lib.hid ks
  clear kh ks h
  by_cases k0 : k = 0
  · subst k0
    go_enter Try.func42, Try.ntmps42
    go_wp2
    go_ret
    refine ⟨?_, by (first | (((repeat (first | exact Below.refl _ _ | (refine Below.alloc ?_ (by first | (simp [World.setCell]; done) | (simp [World.setCell]; omega)) _) | (refine Below.setCell ?_ (by first | (simp [World.setCell]; done) | (simp [World.setCell]; omega)) _) | refine Below.drew ?_))); done) | (refine Below.trans ?_ (below_drewN (_ : World) _ |>.mono ?_) <;> first | (((repeat (first | exact Below.refl _ _ | (refine Below.alloc ?_ (by first | (simp [World.setCell]; done) | (simp [World.setCell]; omega)) _) | (refine Below.setCell ?_ (by first | (simp [World.setCell]; done) | (simp [World.setCell]; omega)) _) | refine Below.drew ?_))); done) | (simp; done)))⟩
    clear KH KS
    first | (simp_all [valueK]; done) | (simp_all [valueK]; omega) | (simp_all [valueK]; trace_state; fail)
  · have d0 : decide (k = 0) = false := by simpa using k0
    have d1 : (k == 0) = false := by simpa using k0
    go_enter Try.func42, Try.ntmps42
    go_upto_region 1 with fail
    generalize hW0 : w.alloc (Obj.cells #[.int .i64 k, .int .i64 n] 32) = W0
    have B0 : Blk W0 w.heap.size #[.int .i64 k, .int .i64 n] := by rw [← hW0]; exact Blk.new w _ _
    have k0 : Below w.heap.size w W0 := by rw [← hW0]; ((repeat (first | exact Below.refl _ _ | (refine Below.alloc ?_ (by first | (simp [World.setCell]; done) | (simp [World.setCell]; omega)) _) | (refine Below.setCell ?_ (by first | (simp [World.setCell]; done) | (simp [World.setCell]; omega)) _) | refine Below.drew ?_)))
    have a0 := B0.cell
    clear hW0
    go_wp2_with (first | (go_at_call 41; with_reducible refine (KS.out W0 k0).mono ?_; rintro e w1 ⟨rfl, hb1⟩; have B1 := B0.below hb1 B0.lt; have a1 := B1.cell; have k1 := k0.trans (hb1.mono k0.size)) | (go_at_call 48; with_reducible refine (KH.out w1 k1).mono ?_; rintro e w2 ⟨rfl, nd, rfl⟩))
    all_goals
      go_ret
      refine ⟨?_, by first | exact k1 | exact k1.trans (below_drewN' _ _ k1.size)⟩
      clear KH KS
      first | (simp_all [valueK]; done) | (simp_all [valueK]; omega) | (simp_all [valueK]; trace_state; fail)

/-- What Get tells of no object. -/
def noObj : Value := .agg #[.int .i64 0, .int .i64 0, .slice none 0 0]
theorem WAt.sub {W : World} {g : Nat} {ws : List Wd} {N i n c : Nat} (h : Blk W g (flat ws).toArray) (hl : ws.length = N) (hi : i + n ≤ N) : WAt W (.slice (some ⟨g, i * 2, none⟩) n c) ((ws.drop i).take n) := by
  have hlen : ((ws.drop i).take n).length = n := by rw [List.length_take, List.length_drop]; omega
  refine ⟨some ⟨g, i * 2, none⟩, c, by rw [hlen], fun _ => ⟨g, i * 2, rfl, h.lt, fun j v hj => ?_⟩⟩
  rw [h.cell, List.getElem?_toArray]
  have hj2 : j < n * 2 := by
    have := (List.getElem?_eq_some_iff.1 hj).1
    rw [flat_len, hlen] at this
    exact this
  have e1 : ws = ws.take i ++ ((ws.drop i).take n ++ (ws.drop i).drop n) := by rw [List.take_append_drop, List.take_append_drop]
  have e2 : (flat ws) = flat (ws.take i) ++ (flat ((ws.drop i).take n) ++ flat ((ws.drop i).drop n)) := by rw [← flat_append, ← flat_append, ← e1]
  have hti : (flat (ws.take i)).length = i * 2 := by rw [flat_len, List.length_take]; omega
  rw [e2, List.getElem?_append_right (by omega), hti, Nat.add_sub_cancel_left, List.getElem?_append_left (by rw [flat_len, hlen]; exact hj2)]
  exact hj

/-- All that is known of the objects. -/
structure HGood (H : HS) : Prop where
  at_ : ∀ a ∈ H.st, 0 ≤ a ∧ a < H.top ∧ (headOf H a).ok = true ∧ a + 1 + (headOf H a).s ≤ H.top
  apart : ∀ a ∈ H.st, ∀ c ∈ H.st, a < c → a + 1 + (headOf H a).s ≤ c

theorem obj_ok {H : HS} (g : HGood H) {a : Int} : (objOf H a).ok = true ↔ a ∈ H.st := by
  unfold objOf
  constructor
  · intro h
    split at h
    · assumption
    · cases h
  · intro h
    rw [if_pos h]
    exact (g.at_ a h).2.2.1

set_option maxRecDepth 100000 in
set_option maxHeartbeats 2000000 in
theorem get_none (b : Nat) (L : HL) (H : HS) (w : World) (h : HInv w b L H) (a : Int) (h1 : -9223372036854775808 ≤ a) (h2 : a ≤ 9223372036854775807) (hn : (objOf H a).ok = false) :
    Calls Try.prog 16 #[.pointer (some ⟨b, 0, none⟩), .int .i64 a] w fun e w' => e = .returned (.tuple #[noObj, .int .i64 2]) ∧ Below w.heap.size w w' := by
  have kn := fun W hb => none_any b L H W (h.below hb)
  have ko := fun W hb => object_any b L H W (h.below hb) a h1 h2
  have KN := Lib.hid kn
  rw [hn] at ko
  have KO := Lib.hid ko
  clear kn ko h hn
  unfold noObj
  go_enter Try.func16, Try.ntmps16
  go_wp2_with (first | (go_at_call 38; with_reducible refine (KN.out _ ?_).mono ?_; exact ((Below.refl _ _).alloc (Nat.le_refl _) _); rintro e w1 ⟨rfl, rfl⟩) | (go_at_call 39; with_reducible refine (KO.out _ ?_).mono ?_; exact ((Below.refl _ _).alloc (Nat.le_refl _) _); rintro e w2 ⟨rfl, nd, rfl⟩))
  exact bodyPost_ret (v := .tuple #[.agg #[.int .i64 0, .int .i64 0, .slice none 0 0], .int .i64 2]) (by simp [results, Try.results16, go_sem]) rfl ⟨rfl, by ((repeat (first | exact Below.refl _ _ | (refine Below.alloc ?_ (by first | (simp [World.setCell]; done) | (simp [World.setCell]; omega)) _) | (refine Below.setCell ?_ (by first | (simp [World.setCell]; done) | (simp [World.setCell]; omega)) _) | refine Below.drew ?_ | (refine Below.trans ?_ ((below_drewN _ _).mono (by first | (simp [World.setCell]; done) | (simp [World.setCell]; omega)))))))⟩

set_option maxRecDepth 100000 in
set_option maxHeartbeats 2000000 in
theorem get_some (b : Nat) (L : HL) (H : HS) (w : World) (h : HInv w b L H) (g : HGood H) (i : Nat) (hi : (i : Int) ∈ H.st) (P : Pt) (hP : headOf H i = P) (s : Nat) (hs : P.s = s) :
    Calls Try.prog 16 #[.pointer (some ⟨b, 0, none⟩), .int .i64 i] w fun e w' => ∃ p c, e = .returned (.tuple #[.agg #[.int .i64 P.k, .int .i64 P.i, .slice p s c], .int .i64 0]) ∧ WOwn w' w.heap.size (.slice p s c) ((H.ws.drop (i + 1)).take s) ∧ Below w.heap.size w w' := by
  obtain ⟨g1, g2, g3, g4⟩ := g.at_ _ hi
  rw [hP, hs] at g4
  rw [hP] at g3
  have hN := h.len
  have hnur := h.nur; have hold := h.old; have htop := h.top
  have hiN : i + 1 + s ≤ H.nur + 2 * H.old := by omega
  have kn := fun W hb => none_any b L H W (h.below hb)
  have ko := fun W hb => object_any b L H W (h.below hb) i (by omega) (by omega)
  have e : objOf H (i : Int) = P := by unfold objOf; rw [if_pos hi, hP]
  rw [e, g3, hs] at ko
  have KN := Lib.hid kn; have KO := Lib.hid ko
  have c := h.blk.cell
  unfold HL.cells at c
  have kc := fun W (hb : Below w.heap.size w W) => clone_any (.slice (some ⟨L.g, (i + 1) * 2, none⟩) s (H.nur + 2 * H.old - (i + 1))) ((H.ws.drop (i + 1)).take s) W (WAt.sub (h.below hb).wd hN hiN) (by rw [List.length_take]; omega)
  have KC := Lib.hid kc
  have hlt := h.blk.lt
  rw [hN] at c
  have hlen : ((H.ws.drop (i + 1)).take s).length = s := by rw [List.length_take, List.length_drop, hN]; omega
  have HLen := Lib.hid hlen
  obtain ⟨N, hNN⟩ : ∃ N, H.nur + 2 * H.old = N := ⟨_, rfl⟩
  have hne : ¬ N = i + 1 := by have := h.opos; omega
  rw [hNN] at c hiN KC
  have hw1 : IntKind.i64.wrap ((i : Int) + 1) = (i : Int) + 1 := IntWalk.i64_in _ (by omega)
  have hw2 : IntKind.i64.wrap ((i : Int) + 1 + (s : Int)) = (i : Int) + 1 + (s : Int) := IntWalk.i64_in _ (by omega)
  clear kn ko kc h hN hP hs e g1 g2 g3 g4 hi hNN hlen
  go_enter Try.func16, Try.ntmps16
  go_upto_region 6 with (first | (go_at_call 38; with_reducible refine (KN.out _ ?_).mono ?_; exact ((Below.refl _ _).alloc (Nat.le_refl _) _); rintro e w1 ⟨rfl, rfl⟩) | (go_at_call 39; with_reducible refine (KO.out _ ?_).mono ?_; exact ((Below.refl _ _).alloc (Nat.le_refl _) _); rintro e w2 ⟨rfl, nd, rfl⟩))
  generalize hW0 : (w.alloc (Obj.cells #[.int .i64 0, .int .i64 0, .slice none 0 0] 41)).drewN nd = W0
  have B0 : Blk W0 w.heap.size #[.int .i64 0, .int .i64 0, .slice none 0 0] := by rw [← hW0]; exact (Blk.new w _ _).drewN nd
  have k0 : Below w.heap.size w W0 := by rw [← hW0]; exact ((Below.refl _ _).alloc (Nat.le_refl _) _).trans (below_drewN' _ _ (by simp))
  have c0 := fun j => (k0.cell (p := ⟨b, j, none⟩) hlt).trans (c j)
  have b0 := B0.cell
  have f0 := B0.free
  clear hW0 c
  go_wp2_with (go_at_call 40; go_loud (with_reducible refine (KC.out W0 k0).mono ?_); rintro e w3 ⟨v, rfl, ow, hb3⟩; obtain ⟨p, cc, rfl⟩ := own_shape ow; rw [HLen.out] at ow ⊢; have B3 := B0.below hb3 B0.lt; have b3 := B3.cell; have f3 := B3.free)
  have O3 : Only w.heap.size w3 (((w3.setCell ⟨w.heap.size, 0, none⟩ (.int .i64 P.k)).setCell ⟨w.heap.size, 1, none⟩ (.int .i64 P.i)).setCell ⟨w.heap.size, 2, none⟩ (.slice p s cc)) := (((Only.refl _ _).set 0 _).set 1 _).set 2 _
  have BF : Blk (((w3.setCell ⟨w.heap.size, 0, none⟩ (.int .i64 P.k)).setCell ⟨w.heap.size, 1, none⟩ (.int .i64 P.i)).setCell ⟨w.heap.size, 2, none⟩ (.slice p s cc)) w.heap.size #[.int .i64 P.k, .int .i64 P.i, .slice p s cc] := ((B3.set 0 _ (by simp)).set 1 _ (by simp)).set 2 _ (by simp)
  generalize (((w3.setCell ⟨w.heap.size, 0, none⟩ (.int .i64 P.k)).setCell ⟨w.heap.size, 1, none⟩ (.int .i64 P.i)).setCell ⟨w.heap.size, 2, none⟩ (.slice p s cc)) = WF at O3 BF ⊢
  have bf := BF.cell
  have k3 := k0.trans (hb3.mono k0.size)
  exact bodyPost_ret (v := .tuple #[.agg #[.int .i64 P.k, .int .i64 P.i, .slice p s cc], .int .i64 0]) (by simp [results, Try.results16, go_sem, bf]) rfl ⟨p, cc, rfl, own_low (O3.own ow (fun q => by have := own_from ow _ q; have := B0.lt; omega)) k0.size, k3.trans (O3.below (Nat.le_refl _))⟩

end Go.Proofs.Ytlmljommgmbckaa
