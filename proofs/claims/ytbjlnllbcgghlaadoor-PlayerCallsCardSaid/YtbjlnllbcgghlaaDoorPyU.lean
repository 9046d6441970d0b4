/- Input. -/
import Derived.Test.YtbjlnllbcgghlaaDoorPyT
namespace Go.Proofs.YtbjlnllbcgghlaaDoor
open Go.RowKit Go.Shelf
set_option linter.unusedSimpArgs false
set_option linter.unusedVariables false

def upEnd (l : List PlD) : List PlD := l.takeWhile fun x => decide (x.kind ≠ 2)
def feedB (x : PlD) : List UInt8 := if x.kind = 1 then x.bytes else []
def inB (l : List PlD) : List UInt8 := (upEnd l).flatMap feedB
def endB (l : List PlD) : Bool := l.any fun x => decide (x.kind = 2)
def idxK (l : List PlD) : Int := if endB l = true then (upEnd l).length else -1
theorem up_found {l : List PlD} {k : Nat} {x : PlD} (hx : l[k]? = some x) (hk : x.kind = 2) (hn : ∀ y ∈ l.take k, y.kind ≠ 2) : upEnd l = l.take k ∧ endB l = true := by
  obtain ⟨hlt, rfl⟩ := List.getElem?_eq_some_iff.1 hx
  refine ⟨?_, ?_⟩
  · unfold upEnd
    conv => lhs; rw [← List.take_append_drop k l, List.drop_eq_getElem_cons hlt]
    rw [List.takeWhile_append_of_pos (fun y hy => by simpa using hn y hy), List.takeWhile_cons_of_neg (by simp [hk]), List.append_nil]
  · unfold endB
    rw [List.any_eq_true]
    exact ⟨l[k], List.getElem_mem _, by simp [hk]⟩
theorem up_none {l : List PlD} (hn : ∀ y ∈ l, y.kind ≠ 2) : upEnd l = l ∧ endB l = false := by
  refine ⟨?_, ?_⟩
  · unfold upEnd
    have := List.takeWhile_append_of_pos (p := fun x : PlD => decide (x.kind ≠ 2)) (l₁ := l) (l₂ := []) (fun y hy => by simpa using hn y hy)
    simpa using this
  · unfold endB
    rw [← Bool.not_eq_true, List.any_eq_true]
    rintro ⟨y, hy, h⟩
    exact hn y hy (by simpa using h)
theorem no_next {l : List PlD} {k : Nat} {x : PlD} (hx : l[k]? = some x) (hk : x.kind ≠ 2) (hn : ∀ y ∈ l.take k, y.kind ≠ 2) : ∀ y ∈ l.take (k + 1), y.kind ≠ 2 := by
  intro y hy
  rw [List.take_add_one, hx] at hy
  rcases List.mem_append.1 hy with hy | hy
  · exact hn y hy
  · simp at hy; subst hy; exact hk
theorem end_none {l : List PlD} (e : endB l = false) : upEnd l = l := by
  refine (up_none fun y hy h2 => ?_).1
  have : endB l = true := by
    unfold endB
    rw [List.any_eq_true]
    exact ⟨y, hy, by simp [h2]⟩
  rw [e] at this
  cases this
theorem feed_take {l : List PlD} {k : Nat} {x : PlD} (hx : l[k]? = some x) : (l.take (k + 1)).flatMap feedB = (l.take k).flatMap feedB ++ feedB x := by
  rw [List.take_add_one, hx, List.flatMap_append]; simp
theorem feed_sum (l : List PlD) : (l.flatMap feedB).length ≤ bsum l := by
  induction l with
  | nil => simp [bsum]
  | cons x l ih =>
    have e : bsum (x :: l) = x.bytes.length + bsum l := by simp [bsum]
    rw [List.flatMap_cons, List.length_append]
    have : (feedB x).length ≤ x.bytes.length := by unfold feedB; split <;> simp
    omega
set_option maxRecDepth 100000 in
set_option maxHeartbeats 8000000 in
theorem pred_any (k n : Int) (vs : Value) (w : World) (h1 : vs.oneCell' = true) :
    Calls Tryd.prog 26 #[.agg #[.int .i64 k, .int .i64 n, vs]] w fun e w' => e = .returned (.bool (k == 2)) ∧ Below w.heap.size w w' := by
  have HB := Lib.hid (show Below w.heap.size w (w.alloc (.cells #[.int .i64 k, .int .i64 n, vs] 34)) from (Below.refl _ w).alloc (Nat.le_refl _) _)
  have R := Blk.new w #[.int .i64 k, .int .i64 n, vs] 34
  have HV := h1
  go_enter Tryd.func26, Tryd.ntmps26
  go_upto_region 1 with fail
  generalize w.alloc (.cells #[.int .i64 k, .int .i64 n, vs] 34) = W at HB R ⊢
  generalize w.heap.size = b at R ⊢
  have d0 : W.cell? ⟨b, 0, none⟩ = _ := R.cell 0
  simp only [List.getElem?_toArray, List.getElem?_cons_zero, List.getElem?_cons_succ] at d0
  go_wp2
  go_ret
  exact ⟨rfl, HB.out⟩
set_option maxRecDepth 100000 in
set_option maxHeartbeats 8000000 in
theorem index_any (v : Value) (l : List PlD) (w : World) (h : Pls w v l) (hn : l.length ≤ 100000) :
    Calls Tryd.prog 25 #[v, .func (.func 26) #[] #[]] w fun e w' => e = .returned (.int .i64 (idxK l)) ∧ Below w.heap.size w w' := by
  obtain ⟨a, ca, rfl, ha⟩ := h
  obtain ⟨N, hN⟩ : ∃ N, l.length = N := ⟨_, rfl⟩
  have HN := Lib.hid hN
  rw [hN] at hn ⊢
  have Ha := Lib.hid ha
  clear ha hN
  go_enter Tryd.func25, Tryd.ntmps25
  go_wp2
  go_loopw [8] (fun i wr => ∃ k : Nat, i = .int .i64 k ∧ k ≤ N ∧ Hid (∀ y ∈ l.take k, y.kind ≠ 2) ∧ Below w.heap.size w wr) (fun i _ => N - (intOf i).toNat)
  case atStart => exact ⟨0, rfl, Nat.zero_le _, Lib.hid (fun y hy => by simp at hy), Below.refl _ _⟩
  case round =>
    obtain ⟨k, rfl, hk, HA, hB⟩ := hrel
    by_cases hlt : k < N
    · have hlt2 : decide ((k : Int) < (N : Int)) = true := by simp; omega
      have hlt3 : decide (k < N) = true := by simp; omega
      have hi0 : (0 : Int) ≤ (k : Int) := by omega
      have hkt : k < l.length := by rw [HN.out]; exact hlt
      obtain ⟨p, o, rfl, hp, hat⟩ := Ha.out (by omega)
      obtain ⟨x, hx⟩ : ∃ x, l[k]? = some x := ⟨_, List.getElem?_eq_getElem hkt⟩
      obtain ⟨vs, hcs, hbts⟩ := hat k x hx
      obtain ⟨ab, cb, rfl, -⟩ := hbts
      obtain ⟨kd, hkd⟩ : ∃ m, x.kind = m := ⟨_, rfl⟩
      obtain ⟨nn, hnn⟩ : ∃ m, x.n = m := ⟨_, rfl⟩
      obtain ⟨m, hm⟩ : ∃ m, x.bytes.length = m := ⟨_, rfl⟩
      rw [hkd, hnn, hm] at hcs
      have c0 := (hB.cell (p := ⟨p, o + k * 3 + 0, none⟩) hp).trans (hcs 0 _ rfl)
      have c1 := (hB.cell (p := ⟨p, o + k * 3 + 1, none⟩) hp).trans (hcs 1 _ rfl)
      have c2 := (hB.cell (p := ⟨p, o + k * 3 + 2, none⟩) hp).trans (hcs 2 _ rfl)
      rw [Nat.add_zero] at c0
      have HX := Lib.hid hx
      have HKD := Lib.hid hkd
      have HB := Lib.hid hB
      clear hat hx hcs hkd hnn hm
      have KP := pred_any kd nn (.slice ab m cb)
      by_cases he : kd = 2
      · subst he
        have HI := Lib.hid (show idxK l = (k : Int) by obtain ⟨q1, q2⟩ := up_found HX.out HKD.out HA.out; unfold idxK; rw [if_pos q2, q1, List.length_take]; omega)
        clear hB
        go_wp2_with (go_at_call 26; refine (KP _ rfl).mono ?_; rintro r1 w1 ⟨rfl, b1⟩; have HB2 := Lib.hid (chain HB.out b1); clear b1)
        go_ret
        exact ⟨by rw [HI.out]; rfl, HB2.out⟩
      · have he2 : (kd == 2) = false := by simp; omega
        have HA2 := Lib.hid (no_next HX.out (by rw [HKD.out]; exact he) HA.out)
        clear hB
        go_wp2_with (go_at_call 26; refine (KP _ rfl).mono ?_; rintro r1 w1 ⟨rfl, b1⟩; have HB2 := Lib.hid (chain HB.out b1); clear b1)
        go_roundw
        case measure => simp [intOf]; omega
        case rel => exact ⟨k + 1, by go_num, by omega, HA2, HB2.out⟩
    · have hlt2 : decide ((k : Int) < (N : Int)) = false := by simp; omega
      have hlt3 : decide (k < N) = false := by simp; omega
      obtain rfl : N = k := by omega
      have hal : l.take N = l := by rw [← HN.out, List.take_length]
      have HI := Lib.hid (show idxK l = -1 by have := HA.out; rw [hal] at this; unfold idxK; rw [if_neg (by rw [(up_none this).2]; decide)])
      clear hal
      go_wp2
      go_ret
      exact ⟨by rw [HI.out]; rfl, hB⟩
set_option maxRecDepth 100000 in
set_option maxHeartbeats 8000000 in
theorem input_any (v : Value) (l : List PlD) (w : World) (h : Pls w v l) (hsm : smallK l) (hr : ∀ a n c, v = .slice a n c → n ≤ c) :
    Calls Tryd.prog 9 #[v] w fun e w' => ∃ v', e = .returned (.tuple #[v', .bool (endB l)]) ∧ Bts w' v' (inB l) ∧ Below w.heap.size w w' := by
  have hup : ∃ L, upEnd l = l.take L ∧ L ≤ l.length ∧ idxK l = if endB l = true then (L : Int) else -1 := by
    refine ⟨(upEnd l).length, ?_, ?_, rfl⟩
    · unfold upEnd; exact (List.prefix_iff_eq_take.1 (List.takeWhile_prefix _))
    · unfold upEnd; exact (List.takeWhile_prefix _).length_le
  obtain ⟨L, hup1, hup2, hup3⟩ := hup
  have KI := index_any v l w h (by have := hsm.1; omega)
  rw [hup3] at KI
  have hnone := end_none (l := l)
  obtain ⟨a, ca, rfl, ha⟩ := h
  obtain ⟨N, hN⟩ : ∃ N, l.length = N := ⟨_, rfl⟩
  have HN := Lib.hid hN
  have Ha := Lib.hid ha
  have hNb : N ≤ 5000 := by rw [← hN]; exact hsm.1
  have hrc := hr _ _ _ rfl
  rw [hN] at KI hup2 hrc ⊢
  have HIB := Lib.hid (show inB l = (l.take L).flatMap feedB by unfold inB; rw [hup1])
  have HNO := Lib.hid (fun e : endB l = false => (hnone e).symm.trans hup1)
  clear ha hN hr hup1 hup3 hnone
  generalize hen : endB l = en at KI HNO ⊢
  have loop : True := trivial
  go_enter Tryd.func9, Tryd.ntmps9
  rcases en with _ | _
  · simp only [Bool.false_eq_true, if_false] at KI
    go_wp2_with (go_at_call 25; refine KI.mono ?_; rintro r1 w1 ⟨rfl, b1⟩; have HB0 := Lib.hid b1; clear b1)
    have HTK := Lib.hid (show l.take L = l.take N by rw [← HNO.out trivial, ← HN.out, List.take_length])
    go_loopw [2, 17] (fun o i wr => ∃ (k : Nat) (bs : List UInt8), i = .int .i64 k ∧ k ≤ N ∧ Hid (UOwn wr w.heap.size o bs) ∧ Hid (bs = (l.take k).flatMap feedB) ∧ Below w.heap.size w wr) (fun _ i _ => N - (intOf i).toNat)
    case atStart => exact ⟨0, [], rfl, Nat.zero_le _, Lib.hid (UOwn.nil _ _), Lib.hid rfl, HB0.out⟩
    case round =>
      obtain ⟨k, bs, rfl, hk, HU, HBS, hB⟩ := hrel
      obtain ⟨ao, co, hvo⟩ := HU.out.shape
      obtain ⟨nb, hnb⟩ : ∃ q, bs.length = q := ⟨_, rfl⟩
      rw [hnb] at hvo
      subst hvo
      by_cases hlt : k < N
      · have hlt2 : decide ((k : Int) < (N : Int)) = true := by simp; omega
        have hlt3 : decide (k < N) = true := by simp; omega
        have hi0 : (0 : Int) ≤ (k : Int) := by omega
        have hkt : k < l.length := by rw [HN.out]; omega
        obtain ⟨p, o, e, hp, hat⟩ := Ha.out (by omega)
        subst e
        obtain ⟨x, hx⟩ : ∃ x, l[k]? = some x := ⟨_, List.getElem?_eq_getElem hkt⟩
        obtain ⟨vs, hcs, hbts⟩ := hat k x hx
        obtain ⟨ab, cb, e1, -⟩ := id hbts
        obtain ⟨kd, hkd⟩ : ∃ m, x.kind = m := ⟨_, rfl⟩
        obtain ⟨nn, hnn⟩ : ∃ m, x.n = m := ⟨_, rfl⟩
        obtain ⟨m, hm⟩ : ∃ m, x.bytes.length = m := ⟨_, rfl⟩
        rw [hm] at e1
        subst e1
        rw [hkd, hnn] at hcs
        have c0 := (hB.cell (p := ⟨p, o + k * 3 + 0, none⟩) hp).trans (hcs 0 _ rfl)
        have c1 := (hB.cell (p := ⟨p, o + k * 3 + 1, none⟩) hp).trans (hcs 1 _ rfl)
        have c2 := (hB.cell (p := ⟨p, o + k * 3 + 2, none⟩) hp).trans (hcs 2 _ rfl)
        rw [Nat.add_zero] at c0
        have hal : Below wr.heap.size wr (wr.alloc (.cells #[.int .i64 kd, .int .i64 nn, .slice ab m cb] 34)) := (Below.refl _ wr).alloc (Nat.le_refl _) _
        have HB2 := Lib.hid (chain hB hal)
        have HBT := Lib.hid ((hbts.below hB).below hal)
        have HU2 := Lib.hid (HU.out.below hal)
        have HX := Lib.hid hx
        have HXK := Lib.hid (show feedB x = if kd = 1 then x.bytes else [] by unfold feedB; rw [hkd])
        have HXL := Lib.hid (show bs.length + x.bytes.length ≤ 40000 by
          have := small_bytes hsm (List.mem_of_getElem? hx)
          have := feed_sum (l.take k); have := bsum_take l k; have h2 := hsm.2
          unfold bsum at *; rw [HBS.out]; omega)
        clear hat hx hcs hkd hnn hm hbts hal
        go_upto_region 8 with fail
        have R := Blk.new wr #[.int .i64 kd, .int .i64 nn, .slice ab m cb] 34
        generalize wr.alloc (.cells #[.int .i64 kd, .int .i64 nn, .slice ab m cb] 34) = W2 at R HB2 HBT HU2 ⊢
        generalize wr.heap.size = r2 at R ⊢
        have d0 : W2.cell? ⟨r2, 0, none⟩ = _ := R.cell 0
        have d1 : W2.cell? ⟨r2, 1, none⟩ = _ := R.cell 1
        have d2 : W2.cell? ⟨r2, 2, none⟩ = _ := R.cell 2
        simp only [List.getElem?_toArray, List.getElem?_cons_zero, List.getElem?_cons_succ] at d0 d1 d2
        clear c0 c1 c2 R hB
        by_cases he : kd = 1
        · subst he
          obtain ⟨v', W', hrun, hU3, -, hB3, -⟩ := HU2.out.app HBT.out (by have := HXL.out; omega) HB2.out.size
          have HU3 := Lib.hid hU3
          have HB3 := Lib.hid (HB2.out.trans hB3)
          have HF := Lib.hid (show bs ++ x.bytes = (l.take (k + 1)).flatMap feedB by rw [feed_take HX.out, ← HBS.out, HXK.out, if_pos rfl])
          clear hU3 hB3
          go_wp2_with (refine wpList_append_run (by rfl) _ _ _ _ (by rfl) _ _ _ _ (by rfl) (by rfl) hrun ?_)
          go_roundw
          case rel => exact ⟨k + 1, _, by go_num, by omega, HU3, HF, HB3.out⟩
          case measure => simp [intOf]; omega
        · have he2 : (kd == 1) = false := by simp; omega
          have HF := Lib.hid (show bs = (l.take (k + 1)).flatMap feedB by rw [feed_take HX.out, ← HBS.out, HXK.out, if_neg he, List.append_nil])
          go_wp2
          go_roundw
          case rel => exact ⟨k + 1, _, by go_num, by omega, HU2, HF, HB2.out⟩
          case measure => simp [intOf]; omega
      · have hlt2 : decide ((k : Int) < (N : Int)) = false := by simp; omega
        have hlt3 : decide (k < N) = false := by simp; omega
        obtain rfl : k = N := by omega
        have HP := Lib.hid (show Bts wr (.slice ao nb co) (inB l) by rw [HIB.out, HTK.out, ← HBS.out]; exact HU.out.bts)
        go_wp2
        refine bodyPost_ret (v := .tuple #[.slice ao nb co, .bool false]) (by simp [results, Tryd.results9, go_sem, Array.mapM_eq_mapM_toList]) rfl ?_
        exact ⟨_, rfl, HP.out, hB⟩
  · simp only [if_true] at KI
    have hL0 : decide ((0 : Int) ≤ (L : Int)) = true := by simp
    go_wp2_with (go_at_call 25; refine KI.mono ?_; rintro r1 w1 ⟨rfl, b1⟩; have HB0 := Lib.hid b1; clear b1)
    go_loopw [2, 17] (fun o i wr => ∃ (k : Nat) (bs : List UInt8), i = .int .i64 k ∧ k ≤ L ∧ Hid (UOwn wr w.heap.size o bs) ∧ Hid (bs = (l.take k).flatMap feedB) ∧ Below w.heap.size w wr) (fun _ i _ => L - (intOf i).toNat)
    case atStart => exact ⟨0, [], rfl, Nat.zero_le _, Lib.hid (UOwn.nil _ _), Lib.hid rfl, HB0.out⟩
    case round =>
      obtain ⟨k, bs, rfl, hk, HU, HBS, hB⟩ := hrel
      obtain ⟨ao, co, hvo⟩ := HU.out.shape
      obtain ⟨nb, hnb⟩ : ∃ q, bs.length = q := ⟨_, rfl⟩
      rw [hnb] at hvo
      subst hvo
      by_cases hlt : k < L
      · have hlt2 : decide ((k : Int) < (L : Int)) = true := by simp; omega
        have hlt3 : decide (k < L) = true := by simp; omega
        have hi0 : (0 : Int) ≤ (k : Int) := by omega
        have hkt : k < l.length := by rw [HN.out]; omega
        obtain ⟨p, o, e, hp, hat⟩ := Ha.out (by omega)
        subst e
        obtain ⟨x, hx⟩ : ∃ x, l[k]? = some x := ⟨_, List.getElem?_eq_getElem hkt⟩
        obtain ⟨vs, hcs, hbts⟩ := hat k x hx
        obtain ⟨ab, cb, e1, -⟩ := id hbts
        obtain ⟨kd, hkd⟩ : ∃ m, x.kind = m := ⟨_, rfl⟩
        obtain ⟨nn, hnn⟩ : ∃ m, x.n = m := ⟨_, rfl⟩
        obtain ⟨m, hm⟩ : ∃ m, x.bytes.length = m := ⟨_, rfl⟩
        rw [hm] at e1
        subst e1
        rw [hkd, hnn] at hcs
        have c0 := (hB.cell (p := ⟨p, o + k * 3 + 0, none⟩) hp).trans (hcs 0 _ rfl)
        have c1 := (hB.cell (p := ⟨p, o + k * 3 + 1, none⟩) hp).trans (hcs 1 _ rfl)
        have c2 := (hB.cell (p := ⟨p, o + k * 3 + 2, none⟩) hp).trans (hcs 2 _ rfl)
        rw [Nat.add_zero] at c0
        have hal : Below wr.heap.size wr (wr.alloc (.cells #[.int .i64 kd, .int .i64 nn, .slice ab m cb] 34)) := (Below.refl _ wr).alloc (Nat.le_refl _) _
        have HB2 := Lib.hid (chain hB hal)
        have HBT := Lib.hid ((hbts.below hB).below hal)
        have HU2 := Lib.hid (HU.out.below hal)
        have HX := Lib.hid hx
        have HXK := Lib.hid (show feedB x = if kd = 1 then x.bytes else [] by unfold feedB; rw [hkd])
        have HXL := Lib.hid (show bs.length + x.bytes.length ≤ 40000 by
          have := small_bytes hsm (List.mem_of_getElem? hx)
          have := feed_sum (l.take k); have := bsum_take l k; have h2 := hsm.2
          unfold bsum at *; rw [HBS.out]; omega)
        clear hat hx hcs hkd hnn hm hbts hal
        go_upto_region 8 with fail
        have R := Blk.new wr #[.int .i64 kd, .int .i64 nn, .slice ab m cb] 34
        generalize wr.alloc (.cells #[.int .i64 kd, .int .i64 nn, .slice ab m cb] 34) = W2 at R HB2 HBT HU2 ⊢
        generalize wr.heap.size = r2 at R ⊢
        have d0 : W2.cell? ⟨r2, 0, none⟩ = _ := R.cell 0
        have d1 : W2.cell? ⟨r2, 1, none⟩ = _ := R.cell 1
        have d2 : W2.cell? ⟨r2, 2, none⟩ = _ := R.cell 2
        simp only [List.getElem?_toArray, List.getElem?_cons_zero, List.getElem?_cons_succ] at d0 d1 d2
        clear c0 c1 c2 R hB
        by_cases he : kd = 1
        · subst he
          obtain ⟨v', W', hrun, hU3, -, hB3, -⟩ := HU2.out.app HBT.out (by have := HXL.out; omega) HB2.out.size
          have HU3 := Lib.hid hU3
          have HB3 := Lib.hid (HB2.out.trans hB3)
          have HF := Lib.hid (show bs ++ x.bytes = (l.take (k + 1)).flatMap feedB by rw [feed_take HX.out, ← HBS.out, HXK.out, if_pos rfl])
          clear hU3 hB3
          go_wp2_with (refine wpList_append_run (by rfl) _ _ _ _ (by rfl) _ _ _ _ (by rfl) (by rfl) hrun ?_)
          go_roundw
          case rel => exact ⟨k + 1, _, by go_num, by omega, HU3, HF, HB3.out⟩
          case measure => simp [intOf]; omega
        · have he2 : (kd == 1) = false := by simp; omega
          have HF := Lib.hid (show bs = (l.take (k + 1)).flatMap feedB by rw [feed_take HX.out, ← HBS.out, HXK.out, if_neg he, List.append_nil])
          go_wp2
          go_roundw
          case rel => exact ⟨k + 1, _, by go_num, by omega, HU2, HF, HB2.out⟩
          case measure => simp [intOf]; omega
      · have hlt2 : decide ((k : Int) < (L : Int)) = false := by simp; omega
        have hlt3 : decide (k < L) = false := by simp; omega
        obtain rfl : k = L := by omega
        have HP := Lib.hid (show Bts wr (.slice ao nb co) (inB l) by rw [HIB.out, ← HBS.out]; exact HU.out.bts)
        go_wp2
        refine bodyPost_ret (v := .tuple #[.slice ao nb co, .bool true]) (by simp [results, Tryd.results9, go_sem, Array.mapM_eq_mapM_toList]) rfl ?_
        exact ⟨_, rfl, HP.out, hB⟩
end Go.Proofs.YtbjlnllbcgghlaaDoor
