/- Contract of lex.character: an escape. -/
import Derived.Test.YtnidkdjapieinaaDoorLxI
namespace Go.Proofs.YtnidkdjapieinaaDoor
open Go.RowKit Go.Shelf

theorem escw0 : wrap64 ((((⟨#[10, 9, 92, 39, 34]⟩ : ByteArray)[0]).toNat : Nat) : Int) = 10 := by
  rw [show ((⟨#[10, 9, 92, 39, 34]⟩ : ByteArray)[0]).toNat = 10 from rfl]
  exact IntWalk.wrap64_in _ ⟨by omega, by omega⟩
theorem escw1 : wrap64 ((((⟨#[10, 9, 92, 39, 34]⟩ : ByteArray)[1]).toNat : Nat) : Int) = 9 := by
  rw [show ((⟨#[10, 9, 92, 39, 34]⟩ : ByteArray)[1]).toNat = 9 from rfl]
  exact IntWalk.wrap64_in _ ⟨by omega, by omega⟩
theorem escw2 : wrap64 ((((⟨#[10, 9, 92, 39, 34]⟩ : ByteArray)[2]).toNat : Nat) : Int) = 92 := by
  rw [show ((⟨#[10, 9, 92, 39, 34]⟩ : ByteArray)[2]).toNat = 92 from rfl]
  exact IntWalk.wrap64_in _ ⟨by omega, by omega⟩
theorem escw3 : wrap64 ((((⟨#[10, 9, 92, 39, 34]⟩ : ByteArray)[3]).toNat : Nat) : Int) = 39 := by
  rw [show ((⟨#[10, 9, 92, 39, 34]⟩ : ByteArray)[3]).toNat = 39 from rfl]
  exact IntWalk.wrap64_in _ ⟨by omega, by omega⟩
theorem escw4 : wrap64 ((((⟨#[10, 9, 92, 39, 34]⟩ : ByteArray)[4]).toNat : Nat) : Int) = 34 := by
  rw [show ((⟨#[10, 9, 92, 39, 34]⟩ : ByteArray)[4]).toNat = 34 from rfl]
  exact IntWalk.wrap64_in _ ⟨by omega, by omega⟩
set_option maxRecDepth 100000 in
set_option maxHeartbeats 8000000 in
theorem character_esc (s : ByteArray) (hs : s.size ≤ 100000) (q : UInt8) (hq : q.toNat ≠ 92) (b : UInt8) (r : List UInt8) (hl : s.data.toList = 92 :: b :: r) (w : World) :
    Calls Tryd.prog 65 #[.string s, .int .u8 q.toNat] w fun e w' => e = .returned (charV (charK s.data.toList q.toNat)) ∧ Below w.heap.size w w' := by
  obtain ⟨hs0, ha⟩ := head_eq s _ _ hl
  have hne := nonempty s hs0
  have hr := char_esc q.toNat hq b r
  rw [← hl] at hr
  have d1 : decide ((s[0].toNat : Int) < 32) = false := by rw [ha]; rfl
  have d2 : decide ((126 : Int) < (s[0].toNat : Int)) = false := by rw [ha]; rfl
  have d3 : ((s[0].toNat : Int) == (q.toNat : Int)) = false := by rw [ha, beq_eq_false_iff_ne]; simp; omega
  have d4 : ((s[0].toNat : Int) != 92) = false := by rw [ha]; rfl
  have ht := tail_ext s _ _ hl
  have hs1 : 1 ≤ s.size := hs0
  obtain ⟨t, hte⟩ : ∃ t, s.extract 1 s.size = t := ⟨_, rfl⟩
  rw [hte] at ht
  have htz : t.size ≤ 99999 := by
    show t.data.toList.length ≤ _
    rw [ht]; have : s.data.toList.length ≤ 100000 := hs
    rw [hl] at this; simpa using this
  obtain ⟨ht0, hb⟩ := head_eq t _ _ ht
  have htn := nonempty t ht0
  clear ha hl
  rcases esc_cases b with ⟨hc, hi⟩ | ⟨hc, hi⟩ | ⟨hc, hi⟩ | ⟨hc, hi⟩ | ⟨hc, hi⟩ | ⟨⟨h1, h2, h3⟩, hi⟩
  · have Hr := Lib.hid (hr.trans (if_pos hc))
    have Hx := Lib.hid (fun w => ix_low ⟨#[110, 116, 92, 39, 34]⟩ t[0] 0 (by rw [hb]; exact hi) w)
    clear hr hi hb ht hc
    go_enter Tryd.func65, Tryd.ntmps65
    go_wp2_with (go_at_call 22; refine (Hx.out _).mono ?_; rintro e w1 ⟨rfl, b1⟩; have l1 : Below w.heap.size w w1 := chain (Below.refl _ w) b1; clear b1)
    go_ret2
    refine ⟨?_, l1⟩
    rw [Hr.out]
    show Ending.returned (.tuple #[.int .i64 (wrap64 ((((⟨#[10, 9, 92, 39, 34]⟩ : ByteArray)[0]).toNat : Nat) : Int)), .int .i64 2]) = _
    rw [escw0]
    rfl
  · have Hr := Lib.hid (hr.trans ((if_neg (by omega)).trans (if_pos hc)))
    have Hx := Lib.hid (fun w => ix_low ⟨#[110, 116, 92, 39, 34]⟩ t[0] 1 (by rw [hb]; exact hi) w)
    clear hr hi hb ht hc
    go_enter Tryd.func65, Tryd.ntmps65
    go_wp2_with (go_at_call 22; refine (Hx.out _).mono ?_; rintro e w1 ⟨rfl, b1⟩; have l1 : Below w.heap.size w w1 := chain (Below.refl _ w) b1; clear b1)
    go_ret2
    refine ⟨?_, l1⟩
    rw [Hr.out]
    show Ending.returned (.tuple #[.int .i64 (wrap64 ((((⟨#[10, 9, 92, 39, 34]⟩ : ByteArray)[1]).toNat : Nat) : Int)), .int .i64 2]) = _
    rw [escw1]
    rfl
  · have Hr := Lib.hid (hr.trans ((if_neg (by omega)).trans ((if_neg (by omega)).trans (if_pos (.inl hc)))))
    rw [hc] at Hr
    have Hx := Lib.hid (fun w => ix_low ⟨#[110, 116, 92, 39, 34]⟩ t[0] 2 (by rw [hb]; exact hi) w)
    clear hr hi hb ht hc
    go_enter Tryd.func65, Tryd.ntmps65
    go_wp2_with (go_at_call 22; refine (Hx.out _).mono ?_; rintro e w1 ⟨rfl, b1⟩; have l1 : Below w.heap.size w w1 := chain (Below.refl _ w) b1; clear b1)
    go_ret2
    refine ⟨?_, l1⟩
    rw [Hr.out]
    show Ending.returned (.tuple #[.int .i64 (wrap64 ((((⟨#[10, 9, 92, 39, 34]⟩ : ByteArray)[2]).toNat : Nat) : Int)), .int .i64 2]) = _
    rw [escw2]
    rfl
  · have Hr := Lib.hid (hr.trans ((if_neg (by omega)).trans ((if_neg (by omega)).trans (if_pos (.inr (.inl hc))))))
    rw [hc] at Hr
    have Hx := Lib.hid (fun w => ix_low ⟨#[110, 116, 92, 39, 34]⟩ t[0] 3 (by rw [hb]; exact hi) w)
    clear hr hi hb ht hc
    go_enter Tryd.func65, Tryd.ntmps65
    go_wp2_with (go_at_call 22; refine (Hx.out _).mono ?_; rintro e w1 ⟨rfl, b1⟩; have l1 : Below w.heap.size w w1 := chain (Below.refl _ w) b1; clear b1)
    go_ret2
    refine ⟨?_, l1⟩
    rw [Hr.out]
    show Ending.returned (.tuple #[.int .i64 (wrap64 ((((⟨#[10, 9, 92, 39, 34]⟩ : ByteArray)[3]).toNat : Nat) : Int)), .int .i64 2]) = _
    rw [escw3]
    rfl
  · have Hr := Lib.hid (hr.trans ((if_neg (by omega)).trans ((if_neg (by omega)).trans (if_pos (.inr (.inr hc))))))
    rw [hc] at Hr
    have Hx := Lib.hid (fun w => ix_low ⟨#[110, 116, 92, 39, 34]⟩ t[0] 4 (by rw [hb]; exact hi) w)
    clear hr hi hb ht hc
    go_enter Tryd.func65, Tryd.ntmps65
    go_wp2_with (go_at_call 22; refine (Hx.out _).mono ?_; rintro e w1 ⟨rfl, b1⟩; have l1 : Below w.heap.size w w1 := chain (Below.refl _ w) b1; clear b1)
    go_ret2
    refine ⟨?_, l1⟩
    rw [Hr.out]
    show Ending.returned (.tuple #[.int .i64 (wrap64 ((((⟨#[10, 9, 92, 39, 34]⟩ : ByteArray)[4]).toNat : Nat) : Int)), .int .i64 2]) = _
    rw [escw4]
    rfl
  · have hr := hr.trans ((if_neg h1).trans ((if_neg h2).trans (if_neg h3)))
    have Hx := Lib.hid (fun w => ix_low ⟨#[110, 116, 92, 39, 34]⟩ t[0] (-1) (by rw [hb]; exact hi) w)
    obtain ⟨n, hn⟩ : ∃ n, spanB digN t.data.toList = n := ⟨_, rfl⟩
    have hnt : n ≤ t.size := by rw [← hn]; exact spanB_le _ _
    have Hn := Lib.hid (fun w => run_known 61 digit_enter digN digit_any t (by omega) n hn w)
    have hn2 : spanB digN (b :: r) = n := by rw [← ht]; exact hn
    clear hi h1 h2 h3 hq
    by_cases hx : b.toNat = 120
    · have hr := hr.trans (if_pos hx)
      have d5 : ((t[0].toNat : Int) == 120) = true := by rw [hb, beq_iff_eq]; omega
      have ht2 := tail_ext t _ _ ht
      obtain ⟨t2, ht2e⟩ : ∃ t2, t.extract 1 t.size = t2 := ⟨_, rfl⟩
      rw [ht2e] at ht2
      have htl : r.length + 1 = t.size := by show _ = t.data.toList.length; rw [ht]; rfl
      have ht2z : t2.size = r.length := by show t2.data.toList.length = _; rw [ht2]
      obtain ⟨k, hk⟩ : ∃ k, spanB hexN t2.data.toList = k := ⟨_, rfl⟩
      have hkl : k ≤ r.length := by rw [← hk, ht2]; exact spanB_le _ _
      have Hk := Lib.hid (fun w => run_known 80 hexc_enter hexN hexc_any t2 (by omega) k hk w)
      rw [ht2] at hk
      rw [hk] at hr
      by_cases hk0 : k = 0
      · have Hr := Lib.hid (hr.trans (if_pos hk0))
        subst hk0
        clear hr hb ht hx ht2 hn hn2 hk htl ht2z
        go_enter Tryd.func65, Tryd.ntmps65
        go_wp2_with (first | (go_at_call 22; refine (Hx.out _).mono ?_; rintro e w1 ⟨rfl, b1⟩; have l1 : Below w.heap.size w w1 := chain (Below.refl _ w) b1; clear b1) | ((go_at_call 11; refine (Hn.out _).mono ?_; rintro e w2 ⟨rfl, b2⟩; have l2 : Below w.heap.size w w2 := chain l1 b2; clear b2); clear Hn) | ((go_at_call 11; refine (Hk.out _).mono ?_; rintro e w3 ⟨rfl, b3⟩; have l3 : Below w.heap.size w w3 := chain l2 b3; clear b3)))
        go_ret2
        exact ⟨by rw [Hr.out]; rfl, l3⟩
      · have hr := hr.trans (if_neg hk0)
        have d6 : (((1 : Int) + (k : Int)) == 1) = false := by rw [beq_eq_false_iff_ne]; omega
        have d7 : (((1 + k : Nat) : Int) == 1) = false := by rw [beq_eq_false_iff_ne]; omega
        obtain ⟨v, hv⟩ : ∃ v, t.extract 1 (1 + k) = v := ⟨_, rfl⟩
        have hvd : v.data.toList = r.take k := by rw [← hv, ext_data, Nat.add_sub_cancel_left, ht]; rfl
        have hvsz : v.size ≤ 100000 := by show v.data.toList.length ≤ _; rw [hvd, List.length_take]; omega
        have hvx : ∀ c ∈ v.data.toList, hexN c.toNat = true := by rw [hvd, ← hk]; exact span_take_all hexN _
        obtain ⟨o, ho⟩ : ∃ o, wholeK 16 v.data.toList = o := ⟨_, rfl⟩
        have Hw := Lib.hid (fun w => whole_known v hvsz 16 (.inr rfl) hvx o ho w)
        rw [hvd] at ho
        rw [ho] at hr
        have hkt : k + 1 ≤ t.size := by omega
        clear hb ht hx ht2 hn hn2 hk htl ht2z hvd hvsz hvx ho hkl
        cases o with
        | none =>
          have Hr := Lib.hid hr; clear hr
          rw [wholeV_no] at Hw
          go_enter Tryd.func65, Tryd.ntmps65
          go_wp2_with (first | (go_at_call 22; refine (Hx.out _).mono ?_; rintro e w1 ⟨rfl, b1⟩; have l1 : Below w.heap.size w w1 := chain (Below.refl _ w) b1; clear b1) | ((go_at_call 11; refine (Hn.out _).mono ?_; rintro e w2 ⟨rfl, b2⟩; have l2 : Below w.heap.size w w2 := chain l1 b2; clear b2); clear Hn) | ((go_at_call 11; refine (Hk.out _).mono ?_; rintro e w3 ⟨rfl, b3⟩; have l3 : Below w.heap.size w w3 := chain l2 b3; clear b3)) | ((go_at_call 64; refine (Hw.out _).mono ?_; rintro e w4 ⟨rfl, b4⟩; have l4 : Below w.heap.size w w4 := chain l3 b4; clear b4)))
          go_ret2
          exact ⟨by rw [Hr.out]; rfl, l4⟩
        | some x =>
          rw [wholeV_yes] at Hw
          simp only at hr
          by_cases h255 : 255 < x
          · have Hr := Lib.hid (hr.trans (if_pos h255)); clear hr
            have d8 : decide ((255 : Int) < (x : Int)) = true := by simp; omega
            clear h255
            go_enter Tryd.func65, Tryd.ntmps65
            go_wp2_with (first | (go_at_call 22; refine (Hx.out _).mono ?_; rintro e w1 ⟨rfl, b1⟩; have l1 : Below w.heap.size w w1 := chain (Below.refl _ w) b1; clear b1) | ((go_at_call 11; refine (Hn.out _).mono ?_; rintro e w2 ⟨rfl, b2⟩; have l2 : Below w.heap.size w w2 := chain l1 b2; clear b2); clear Hn) | ((go_at_call 11; refine (Hk.out _).mono ?_; rintro e w3 ⟨rfl, b3⟩; have l3 : Below w.heap.size w w3 := chain l2 b3; clear b3)) | ((go_at_call 64; refine (Hw.out _).mono ?_; rintro e w4 ⟨rfl, b4⟩; have l4 : Below w.heap.size w w4 := chain l3 b4; clear b4)))
            go_ret2
            exact ⟨by rw [Hr.out]; rfl, l4⟩
          · have Hr := Lib.hid (hr.trans (if_neg h255)); clear hr
            have d8 : decide ((255 : Int) < (x : Int)) = false := by simp; omega
            clear h255
            go_enter Tryd.func65, Tryd.ntmps65
            go_wp2_with (first | (go_at_call 22; refine (Hx.out _).mono ?_; rintro e w1 ⟨rfl, b1⟩; have l1 : Below w.heap.size w w1 := chain (Below.refl _ w) b1; clear b1) | ((go_at_call 11; refine (Hn.out _).mono ?_; rintro e w2 ⟨rfl, b2⟩; have l2 : Below w.heap.size w w2 := chain l1 b2; clear b2); clear Hn) | ((go_at_call 11; refine (Hk.out _).mono ?_; rintro e w3 ⟨rfl, b3⟩; have l3 : Below w.heap.size w w3 := chain l2 b3; clear b3)) | ((go_at_call 64; refine (Hw.out _).mono ?_; rintro e w4 ⟨rfl, b4⟩; have l4 : Below w.heap.size w w4 := chain l3 b4; clear b4)))
            go_ret2
            exact ⟨by rw [Hr.out, show 2 + k = 1 + (1 + k) by omega]; rfl, l4⟩
    · have hr := hr.trans (if_neg hx)
      have d5 : ((t[0].toNat : Int) == 120) = false := by rw [hb, beq_eq_false_iff_ne]; omega
      rw [hn2] at hr
      by_cases hn0 : n = 0
      · have Hr := Lib.hid (hr.trans (if_pos hn0))
        subst hn0
        clear hr hb ht hx hn hn2
        go_enter Tryd.func65, Tryd.ntmps65
        go_wp2_with (first | (go_at_call 22; refine (Hx.out _).mono ?_; rintro e w1 ⟨rfl, b1⟩; have l1 : Below w.heap.size w w1 := chain (Below.refl _ w) b1; clear b1) | ((go_at_call 11; refine (Hn.out _).mono ?_; rintro e w2 ⟨rfl, b2⟩; have l2 : Below w.heap.size w w2 := chain l1 b2; clear b2); clear Hn))
        go_ret2
        exact ⟨by rw [Hr.out]; rfl, l2⟩
      · have hr := hr.trans (if_neg hn0)
        have d6 : ((n : Int) == 0) = false := by rw [beq_eq_false_iff_ne]; omega
        obtain ⟨v, hv⟩ : ∃ v, t.extract 0 n = v := ⟨_, rfl⟩
        have hvd : v.data.toList = (b :: r).take n := by rw [← hv, take_data, ht]
        have hvsz : v.size ≤ 100000 := by
          show v.data.toList.length ≤ _; rw [hvd, List.length_take]; omega
        have hvx : ∀ c ∈ v.data.toList, hexN c.toNat = true := by
          rw [hvd, ← hn2]; exact fun c hc => digN_hex _ (span_take_all digN _ c hc)
        obtain ⟨o, ho⟩ : ∃ o, wholeK 10 v.data.toList = o := ⟨_, rfl⟩
        have Hw := Lib.hid (fun w => whole_known v hvsz 10 (.inl rfl) hvx o ho w)
        rw [hvd] at ho
        rw [ho] at hr
        clear hb ht hx hn hn2 hvd hvsz hvx ho
        cases o with
        | none =>
          have Hr := Lib.hid hr; clear hr
          rw [wholeV_no] at Hw
          go_enter Tryd.func65, Tryd.ntmps65
          go_wp2_with (first | (go_at_call 22; refine (Hx.out _).mono ?_; rintro e w1 ⟨rfl, b1⟩; have l1 : Below w.heap.size w w1 := chain (Below.refl _ w) b1; clear b1) | ((go_at_call 11; refine (Hn.out _).mono ?_; rintro e w2 ⟨rfl, b2⟩; have l2 : Below w.heap.size w w2 := chain l1 b2; clear b2); clear Hn) | ((go_at_call 64; refine (Hw.out _).mono ?_; rintro e w4 ⟨rfl, b4⟩; have l4 : Below w.heap.size w w4 := chain l2 b4; clear b4)))
          go_ret2
          exact ⟨by rw [Hr.out]; rfl, l4⟩
        | some x =>
          rw [wholeV_yes] at Hw
          simp only at hr
          by_cases h255 : 255 < x
          · have Hr := Lib.hid (hr.trans (if_pos h255)); clear hr
            have d8 : decide ((255 : Int) < (x : Int)) = true := by simp; omega
            clear h255
            go_enter Tryd.func65, Tryd.ntmps65
            go_wp2_with (first | (go_at_call 22; refine (Hx.out _).mono ?_; rintro e w1 ⟨rfl, b1⟩; have l1 : Below w.heap.size w w1 := chain (Below.refl _ w) b1; clear b1) | ((go_at_call 11; refine (Hn.out _).mono ?_; rintro e w2 ⟨rfl, b2⟩; have l2 : Below w.heap.size w w2 := chain l1 b2; clear b2); clear Hn) | ((go_at_call 64; refine (Hw.out _).mono ?_; rintro e w4 ⟨rfl, b4⟩; have l4 : Below w.heap.size w w4 := chain l2 b4; clear b4)))
            go_ret2
            exact ⟨by rw [Hr.out]; rfl, l4⟩
          · have Hr := Lib.hid (hr.trans (if_neg h255)); clear hr
            have d8 : decide ((255 : Int) < (x : Int)) = false := by simp; omega
            clear h255
            go_enter Tryd.func65, Tryd.ntmps65
            go_wp2_with (first | (go_at_call 22; refine (Hx.out _).mono ?_; rintro e w1 ⟨rfl, b1⟩; have l1 : Below w.heap.size w w1 := chain (Below.refl _ w) b1; clear b1) | ((go_at_call 11; refine (Hn.out _).mono ?_; rintro e w2 ⟨rfl, b2⟩; have l2 : Below w.heap.size w w2 := chain l1 b2; clear b2); clear Hn) | ((go_at_call 64; refine (Hw.out _).mono ?_; rintro e w4 ⟨rfl, b4⟩; have l4 : Below w.heap.size w w4 := chain l2 b4; clear b4)))
            go_ret2
            exact ⟨by rw [Hr.out]; rfl, l4⟩
theorem character_any (s : ByteArray) (hs : s.size ≤ 100000) (q : UInt8) (hq : q.toNat ≠ 92) (w : World) :
    Calls Tryd.prog 65 #[.string s, .int .u8 q.toNat] w fun e w' => e = .returned (charV (charK s.data.toList q.toNat)) ∧ Below w.heap.size w w' := by
  cases hl : s.data.toList with
  | nil =>
    obtain rfl : s = ⟨#[]⟩ := by cases s with | mk x => exact congrArg ByteArray.mk (Array.toList_inj.1 hl)
    exact character_nil q w
  | cons a r =>
    rw [← hl]
    by_cases ha : a.toNat = 92
    · obtain rfl : a = 92 := UInt8.toNat_inj.1 ha
      cases r with
      | nil => exact character_esc0 s hs q hq hl w
      | cons b r => exact character_esc s hs q hq b r hl w
    · exact character_plain s q a r hl (.inl ha) w
end Go.Proofs.YtnidkdjapieinaaDoor
