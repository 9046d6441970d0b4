/- The walk of LexBetween. -/
import Derived.Test.YtiflklmjmdhfoaaDoorLxU
namespace Go.Proofs.YtiflklmjmdhfoaaDoor
open Go.RowKit Go.Shelf
set_option linter.unusedSimpArgs false

def endAt (n : Nat) (ts : List Tp) (k : Nat) : Nat := match ts[k]? with | some x => x.at_ | none => n
theorem endAt_lt {n : Nat} {ts : List Tp} {k : Nat} (h : k < ts.length) : endAt n ts k = ts[k].at_ := by
  unfold endAt; rw [List.getElem?_eq_getElem h]
theorem endAt_ge {n : Nat} {ts : List Tp} {k : Nat} (h : ts.length ≤ k) : endAt n ts k = n := by
  unfold endAt; rw [List.getElem?_eq_none h]
def SegOk (L : List UInt8) (ts : List Tp) (k : Nat) (h : k < ts.length) : Prop :=
  ts[k].at_ ≤ endAt L.length ts (k + 1) ∧ endAt L.length ts (k + 1) ≤ L.length ∧ allK ((L.take (endAt L.length ts (k + 1))).drop ts[k].at_) = .ok [⟨ts[k].t, 0, 1, 1, true⟩]
theorem aloneT_at (L : List UInt8) : ∀ (r : List Tp) (x : Tp), x.at_ ≤ L.length → Alone.AloneT L x r → ∀ k (h : k < (x :: r).length), SegOk L (x :: r) k h
  | [], x, hx, ha, 0, h => by
    refine ⟨?_, ?_, ?_⟩
    · rw [endAt_ge (by simp)]; exact hx
    · rw [endAt_ge (by simp)]; exact Nat.le_refl _
    · rw [endAt_ge (by simp), List.take_of_length_le (Nat.le_refl _)]; exact ha
  | [], x, _, ha, k + 1, h => by simp at h
  | y :: r, x, _, ha, 0, h => by
    obtain ⟨h1, h2, h3, _⟩ := ha
    refine ⟨?_, ?_, ?_⟩
    · rw [endAt_lt (by simp)]; exact Nat.le_of_lt h1
    · rw [endAt_lt (by simp)]; exact Nat.le_of_lt h2
    · rw [endAt_lt (by simp)]; exact h3
  | y :: r, x, _, ha, k + 1, h => by
    obtain ⟨h1, h2, h3, h4⟩ := ha
    have ih := aloneT_at L r y (Nat.le_of_lt h2) h4 k (by simpa using h)
    unfold SegOk at ih ⊢
    have e : endAt L.length (x :: y :: r) (k + 1 + 1) = endAt L.length (y :: r) (k + 1) := by unfold endAt; rw [List.getElem?_cons_succ]
    rw [e]
    exact ih
theorem alone_at (L : List UInt8) (ts : List Tp) (h : Alone L 0 ts) : (∀ k (hk : k < ts.length), SegOk L ts k hk) ∧ endAt L.length ts 0 ≤ L.length ∧ allK (L.take (endAt L.length ts 0)) = .ok [] := by
  cases ts with
  | nil =>
    refine ⟨fun k hk => by simp at hk, by rw [endAt_ge (by simp)]; exact Nat.le_refl _, ?_⟩
    rw [endAt_ge (by simp), List.take_of_length_le (Nat.le_refl _)]
    exact h L rfl
  | cons x r =>
    obtain ⟨_, h2, h3, h4⟩ := h
    refine ⟨aloneT_at L r x (Nat.le_of_lt h2) h4, ?_, ?_⟩
    · rw [endAt_lt (by simp)]; exact Nat.le_of_lt h2
    · rw [endAt_lt (by simp)]; exact h3
theorem chk_sub : ∀ (l : List UInt8) (i : Nat), chkGo i l = (0, 0) ↔ ∀ c ∈ l, badB c = false
  | [], i => by simp [chkGo]
  | c :: l, i => by
    rw [chkGo]
    cases hb : badB c with
    | true => simp [hb]
    | false => simp [chk_sub l (i + 1), hb]
theorem checkF_iff (l : List UInt8) : checkF l = (0, 0) ↔ l.length ≤ 65536 ∧ ∀ c ∈ l, badB c = false := by
  unfold checkF
  split
  · constructor
    · intro h; cases h
    · intro h; omega
  · rw [chk_sub]; constructor
    · intro h; exact ⟨by omega, h⟩
    · intro h; exact h.2
theorem checkF_sub (l m : List UInt8) (h : checkF l = (0, 0)) (hl : m.length ≤ l.length) (hm : ∀ c ∈ m, c ∈ l) : checkF m = (0, 0) := by
  rw [checkF_iff] at h ⊢
  exact ⟨by omega, fun c hc => h.2 c (hm c hc)⟩
theorem allF_of (l : List UInt8) (ts : List Tp) (hc : checkF l = (0, 0)) (h : allK l = .ok ts) : allF l = ((0, 0), ts) := by
  unfold allF; rw [if_pos hc, h]

set_option maxRecDepth 100000 in
set_option maxHeartbeats 8000000 in
theorem between_walk (s : ByteArray) (hs : s.size ≤ 9223372036854775807) (w : World) :
    Calls Tryd.prog 5 #[.string s] w fun e w' => e = .returned (.bool true) ∧ Below w.heap.size w w' := by
  have hsl : s.data.toList.length = s.size := rfl
  by_cases hbig : 1000 < s.size
  · have d0 : decide ((1000 : Int) < (s.size : Int)) = true := by simp; omega
    go_enter Tryd.func5, Tryd.ntmps5
    go_wp2_with (go_at_call 9; refine (lives_true _).mono ?_; rintro e w0 ⟨rfl, b0⟩)
    go_ret
    exact ⟨rfl, b0⟩
  · have d0 : decide ((1000 : Int) < (s.size : Int)) = false := by simp; omega
    rcases allF_sort s.data.toList with ⟨h1, h2, h3⟩ | ⟨h1, h2⟩
    · obtain ⟨ts, hts⟩ : ∃ ts, (allF s.data.toList).2 = ts := ⟨_, rfl⟩
      rw [hts] at h2
      obtain ⟨ss, hlex, hpl⟩ := allK_ok _ _ h2
      have hal := alone_at _ _ (hpl ▸ alone_of _ ss hlex)
      obtain ⟨ha1, ha2, ha3⟩ := hal
      rw [hsl] at ha2
      have K := Lib.hid (fun w => all_known s hs (0, 0) ts h1 hts w)
      have hNb : ts.length ≤ 1000 := by rw [hpl]; exact Nat.le_trans (placed_len hlex _ _ _) (by omega)
      -- what is from one place to another
      have seg : ∀ (a b : Nat) (us : List Tp), b ≤ s.size → allK ((s.data.toList.take b).drop a) = .ok us → ∀ w, Calls Tryd.prog 10 #[.string (s.extract a b)] w fun e w' => ∃ v, e = .returned (.tuple #[v, .agg #[.int .i64 0, .int .i64 0]]) ∧ TRd w' v us ∧ Below w.heap.size w w' := by
        intro a b us hb hu w
        have e : (s.extract a b).data.toList = (s.data.toList.take b).drop a := by rw [ext_data, List.drop_take]
        have hc : checkF (s.extract a b).data.toList = (0, 0) := checkF_sub _ _ h3 (by rw [e, List.length_drop, List.length_take]; omega) (fun c hc => by rw [e] at hc; exact List.mem_of_mem_take (List.mem_of_mem_drop hc))
        have hF := allF_of _ us hc (by rw [e]; exact hu)
        have hz : (s.extract a b).size ≤ 9223372036854775807 := by
          show (s.extract a b).data.toList.length ≤ _
          rw [e, List.length_drop, List.length_take]; omega
        exact all_known _ hz (0, 0) us (by rw [hF]) (by rw [hF]) w
      have Seg := Lib.hid seg
      have Ha1 := Lib.hid ha1
      have Ha3 := Lib.hid ha3
      clear h1 h2 h3 hts hlex hpl seg ha1 ha3
      go_enter Tryd.func5, Tryd.ntmps5
      go_wp2_with (first | (go_at_call 9; refine (lives_true _).mono ?_; rintro e w0 ⟨rfl, b0⟩) | (go_at_call 10; refine (K.out _).mono ?_; rintro e w1 ⟨v, rfl, ⟨a, cap, rfl, hrd⟩, b1⟩))
      have B1 := (chain b0 b1).alloc (chain b0 b1).size (.cells #[.int .i64 0, .int .i64 0] 26)
      have R1 : TRd (w1.alloc (.cells #[.int .i64 0, .int .i64 0] 26)) (.slice a ts.length cap) ts := TRd.below ⟨a, cap, rfl, hrd⟩ ((Below.refl _ _).alloc (Nat.le_refl _) _)
      generalize w1.alloc (.cells #[.int .i64 0, .int .i64 0] 26) = W at B1 R1 ⊢
      obtain ⟨a', cap', e, hr⟩ := R1
      cases e
      obtain ⟨N, hN⟩ : ∃ N, ts.length = N := ⟨_, rfl⟩
      have HN := Lib.hid hN
      rw [hN]
      rw [hN] at hNb
      have Hr := Lib.hid hr
      have He0 := Lib.hid ha2
      clear hr hrd b0 b1 hN K ha2
      go_loopw [5, 6] (fun e i wr => ∃ (k E : Nat) (j : Int), e = .int .i64 E ∧ i = .int .i64 j ∧ j + 1 = k ∧ k ≤ N ∧ E ≤ s.size ∧ Hid (E = endAt s.data.toList.length ts k) ∧ Below W.heap.size W wr) (fun _ i _ => (intOf i + 1).toNat)
      case atStart => exact ⟨N, s.size, _, rfl, rfl, by omega, Nat.le_refl _, Nat.le_refl _, Lib.hid (by rw [endAt_ge (by rw [HN.out]; exact Nat.le_refl _)]; rfl), Below.refl _ _⟩
      case round =>
        obtain ⟨k, E, j, rfl, rfl, hj, hk, hE, HE, hB⟩ := hrel
        cases k with
        | zero =>
          obtain rfl : j = -1 := by omega
          have h0 : allK ((s.data.toList.take E).drop 0) = .ok [] := by rw [HE.out, List.drop_zero]; exact Ha3.out
          have Hs := Lib.hid (Seg.out 0 E [] hE h0)
          clear h0
          go_wp2_with (go_at_call 10; refine (Hs.out _).mono ?_; rintro e w2 ⟨v, rfl, ⟨a2, cap2, rfl, hrd2⟩, b2⟩)
          go_ret
          exact ⟨rfl, B1.trans (((chain hB b2).alloc (chain hB b2).size _).mono B1.size)⟩
        | succ m =>
          obtain rfl : j = (m : Int) := by omega
          have hmt : m < ts.length := by rw [HN.out]; omega
          obtain ⟨b, rfl, hbl, hat⟩ := Hr.out (by omega)
          have key : ∀ o, wr.cell? ⟨b, o, none⟩ = W.cell? ⟨b, o, none⟩ := fun o => hB.cell (p := ⟨b, o, none⟩) hbl
          have hbr : b < wr.heap.size := Nat.lt_of_lt_of_le hbl hB.size
          obtain ⟨c0, c1, c2, c3, _, _, _⟩ := hat m hmt
          rw [← key] at c0 c1 c2 c3
          obtain ⟨q1, q2, q3⟩ := Ha1.out m hmt
          rw [← HE.out] at q1 q2 q3
          have HE2 : Hid (ts[m].at_ = endAt s.data.toList.length ts m) := Lib.hid (endAt_lt hmt).symm
          obtain ⟨x, hx⟩ : ∃ x, ts[m] = x := ⟨_, rfl⟩
          rw [hx] at c0 c1 c2 c3 q1 q3 HE2
          clear hx hat
          obtain ⟨⟨tk, tt, tn⟩, pa, pl, pc, pf⟩ := x
          simp only at c0 c1 c2 c3 q1 q2 q3 HE2
          have Hs := Lib.hid (Seg.out pa E _ hE q3)
          have e0 : decide ((pa : Int) < 0) = false := decide_eq_false (by omega)
          have e1 : decide ((E : Int) < (pa : Int)) = false := decide_eq_false (by omega)
          have e1b : decide (E < pa) = false := decide_eq_false (by omega)
          clear q3 key
          go_wp2_with (go_at_call 10; refine (Hs.out _).mono ?_; rintro e w2 ⟨v, rfl, ⟨a2, cap2, rfl, hrd2⟩, b2⟩)
          obtain ⟨b2', rfl, hb2, hat2⟩ := hrd2 (by simp)
          obtain ⟨g0, g1, g2, g3, _, _, _⟩ := hat2 0 (by simp)
          simp only [List.getElem_cons_zero, Nat.zero_mul, Nat.zero_add] at g0 g1 g2 g3
          have hB2 := (chain hB b2)
          have a0 := (b2.cell (p := ⟨b, m * 7, none⟩) hbr).trans c0
          have a1 := (b2.cell (p := ⟨b, m * 7 + 1, none⟩) hbr).trans c1
          have a2' := (b2.cell (p := ⟨b, m * 7 + 2, none⟩) hbr).trans c2
          have hbr2 : b < w2.heap.size := Nat.lt_of_lt_of_le hbr b2.size
          have BF := Blk.new w2 #[.int .i64 0, .int .i64 0] 26
          have up : ∀ (p q : Nat), p < w2.heap.size → (w2.alloc (.cells #[.int .i64 0, .int .i64 0] 26)).cell? ⟨p, q, none⟩ = w2.cell? ⟨p, q, none⟩ := fun p q hp => World.cell?_of_block (w := w2) (a := ⟨p, q, none⟩) (Below.heap_alloc _ _ _ hp)
          have hB3 := hB2.alloc hB2.size (.cells #[.int .i64 0, .int .i64 0] 26)
          rw [← up _ _ hbr2] at a0 a1 a2'
          rw [← up _ _ hb2] at g0 g1 g2 g3
          have f0 := BF.cell 0
          have f1 := BF.cell 1
          simp only [List.getElem?_toArray, List.getElem?_cons_zero, List.getElem?_cons_succ] at f0 f1
          generalize w2.alloc (.cells #[.int .i64 0, .int .i64 0] 26) = W3 at a0 a1 a2' g0 g1 g2 g3 f0 f1 hB3 ⊢
          generalize w2.heap.size = n2 at f0 f1 ⊢
          clear c0 c1 c2 c3 hat2 hrd2 b2 hB2 BF up hb2 hbr hbr2 hB
          go_quiet (fail)
          go_wp2
          go_roundw
          case rel => exact ⟨m, pa, (m : Int) - 1, rfl, rfl, by omega, by omega, by omega, HE2, below_drewN hB3 _⟩
          case measure => simp [intOf]
    · obtain ⟨⟨x, y⟩, hx⟩ : ∃ x, (allF s.data.toList).1 = x := ⟨_, rfl⟩
      have K := Lib.hid (fun w => all_known s hs (x, y) [] hx h2 w)
      rw [hx] at h1
      have d1 : (x == 0) = false := by rw [beq_eq_false_iff_ne]; exact h1
      clear hx h2 h1
      go_enter Tryd.func5, Tryd.ntmps5
      go_wp2_with (first | (go_at_call 9; refine (lives_true _).mono ?_; rintro e w0 ⟨rfl, b0⟩) | (go_at_call 10; refine (K.out _).mono ?_; rintro e w1 ⟨v, rfl, ⟨a, cap, rfl, hrd⟩, b1⟩))
      go_ret
      exact ⟨rfl, (chain b0 b1).alloc (chain b0 b1).size _⟩
end Go.Proofs.YtiflklmjmdhfoaaDoor
