/- Contract of the finder of numbers. -/
import Derived.Test.YtnidkdjapieinaaDoorLxG
namespace Go.Proofs.YtnidkdjapieinaaDoor
open Go.RowKit Go.Shelf

theorem prefix2 (l : List UInt8) (a b : UInt8) : Lib.hasPrefix l [a, b] = decide (l.take 2 = [a, b]) := by
  unfold Lib.hasPrefix
  rw [Bool.eq_iff_iff, List.isPrefixOf_iff_prefix, decide_eq_true_iff]
  constructor
  · rintro ⟨r, rfl⟩; rfl
  · intro h; exact ⟨l.drop 2, by rw [← h]; exact List.take_append_drop 2 l⟩
theorem prefix_low (s p : ByteArray) (b : Bool) (h : Lib.hasPrefix s.data.toList p.data.toList = b) (w : World) :
    Calls Tryd.prog 23 #[.string s, .string p] w fun e w' => e = .returned (.bool b) ∧ Below w.heap.size w w' := by
  refine (Tryd.strings_HasPrefix s p w).mono ?_
  rintro e w' ⟨rfl, rfl⟩
  exact ⟨by rw [h], Below.refl _ _⟩
theorem digN_hex (n : Nat) (h : digN n = true) : hexN n = true := by simp [hexN, h]
theorem span_take_all (p : Nat → Bool) (l : List UInt8) : ∀ c ∈ l.take (spanB p l), p c.toNat = true := by
  induction l with
  | nil => simp
  | cons a l ih =>
    rw [spanB]
    split
    · rename_i h
      rw [List.take_succ_cons]
      intro c hc
      rcases List.mem_cons.1 hc with rfl | hc
      · exact h
      · exact ih c hc
    · simp
theorem drop_data (s : ByteArray) (n : Nat) : (s.extract n s.size).data.toList = s.data.toList.drop n := by
  rw [Lib.extract_data, List.take_of_length_le (by rw [List.length_drop]; exact Nat.le_refl _)]
theorem ext_data (s : ByteArray) (n m : Nat) : (s.extract n m).data.toList = (s.data.toList.drop n).take (m - n) := by
  rw [Lib.extract_data]
theorem whole_known (u : ByteArray) (hu : u.size ≤ 100000) (b : Nat) (hb : b = 10 ∨ b = 16) (hx : ∀ c ∈ u.data.toList, hexN c.toNat = true) (o : Option Nat) (ho : wholeK b u.data.toList = o) (w : World) :
    Calls Tryd.prog 64 #[.string u, .int .u64 b] w fun e w' => e = .returned (wholeV o) ∧ Below w.heap.size w w' := by
  rw [← ho]; exact whole_any u hu b hb hx w
theorem fd_num (x n : Nat) : Ending.returned (fdV (fdNum 5 n (some x))) = .returned (.tuple #[.agg #[.int .i64 5, .string ⟨#[]⟩, .int .i64 x, .int .i64 0, .int .i64 0, .int .i64 0, .bool false], .int .i64 n]) := rfl
theorem fd_numno (n : Nat) : Ending.returned (fdV (fdNum 5 n none)) = .returned (.tuple #[.agg #[.int .i64 0, .string ⟨#[]⟩, .int .i64 0, .int .i64 0, .int .i64 0, .int .i64 0, .bool false], .int .i64 (-1)]) := rfl
theorem wholeV_no : wholeV none = .tuple #[.int .i64 0, .bool false] := rfl
theorem wholeV_yes (x : Nat) : wholeV (some x) = .tuple #[.int .i64 x, .bool true] := rfl

set_option maxRecDepth 100000 in
set_option maxHeartbeats 8000000 in
theorem number_any (s : ByteArray) (hs : s.size ≤ 100000) (h0 : 0 < s.size) (w : World) :
    Calls Tryd.prog 44 #[.string s] w fun e w' => e = .returned (fdV (numberK s.data.toList)) ∧ Below w.heap.size w w' := by
  have hh := head_of s h0
  have hl0 : s.data.toList.length = s.size := rfl
  cases hq : digN s[0].toNat with
  | false =>
    have hr : numberK s.data.toList = .no := by rw [hh]; simp only [numberK, hq]; rfl
    have Hr := Lib.hid hr; clear hr hh hl0
    have Hc := Lib.hid (fun w => digit_any s[0] w); simp only [hq] at Hc; clear hq
    go_enter Tryd.func44, Tryd.ntmps44
    go_wp2_with (go_at_call 61; refine (Hc.out _).mono ?_; rintro e w1 ⟨rfl, b1⟩; have t1 : TokB w w1 := TokB.next (by first | assumption | exact TokB.start w) b1; clear b1; obtain ⟨⟨ka1, kb1, kc1, kd1, ke1, kf1, kg1⟩, fa1, fb1, fc1, fd1, fe1, ff1, fg1⟩ := t1.cells)
    exact bodyPost_ret (v := .tuple #[.agg #[.int .i64 0, .string ⟨#[]⟩, .int .i64 0, .int .i64 0, .int .i64 0, .int .i64 0, .bool false], .int .i64 0]) (by simp [results, Tryd.results44, go_sem, ka1, kb1, kc1, kd1, ke1, kf1, kg1]) rfl ⟨by rw [Hr.out, fd_no], t1.set7 _ _ _ _ _ _ _⟩
  | true =>
    have Hs := Lib.hid (fun w => digit_any s[0] w); simp only [hq] at Hs
    have hcons : numberK s.data.toList = (if s.data.toList.take 2 = [48, 120] ∧ 0 < spanB hexN (s.data.toList.drop 2) then fdNum 5 (2 + spanB hexN (s.data.toList.drop 2)) (wholeK 16 ((s.data.toList.drop 2).take (spanB hexN (s.data.toList.drop 2))))
       else fdNum 5 (spanB digN s.data.toList) (wholeK 10 (s.data.toList.take (spanB digN s.data.toList)))) := by
      conv => lhs; rw [hh]
      simp only [numberK, hq, if_true]
      rw [← hh]
    obtain ⟨n, hn⟩ : ∃ n, spanB digN s.data.toList = n := ⟨_, rfl⟩
    have hns : n ≤ s.size := by rw [← hn]; exact spanB_le _ _
    have Hn := Lib.hid (fun w => run_known 61 digit_enter digN digit_any s hs n hn w)
    obtain ⟨u, hu⟩ : ∃ u, s.extract 0 n = u := ⟨_, rfl⟩
    have hud : u.data.toList = s.data.toList.take n := by rw [← hu, take_data]
    have husz : u.size ≤ 100000 := by
      have : u.data.toList.length ≤ s.data.toList.length := by rw [hud, List.length_take]; omega
      show u.data.toList.length ≤ _; omega
    have hux : ∀ c ∈ u.data.toList, hexN c.toNat = true := by
      rw [hud, ← hn]; exact fun c hc => digN_hex _ (span_take_all digN _ c hc)
    obtain ⟨o, ho⟩ : ∃ o, wholeK 10 u.data.toList = o := ⟨_, rfl⟩
    have Hw := Lib.hid (fun w => whole_known u husz 10 (.inl rfl) hux o ho w)
    by_cases hp : s.data.toList.take 2 = [48, 120]
    · have hs2 : 2 ≤ s.size := by have := congrArg List.length hp; simp at this; omega
      have Hp := Lib.hid (fun w => prefix_low s ⟨#[48, 120]⟩ true (by rw [prefix2]; exact decide_eq_true hp) w)
      obtain ⟨s2, hs2e⟩ : ∃ s2, s.extract 2 s.size = s2 := ⟨_, rfl⟩
      have hs2d : s2.data.toList = s.data.toList.drop 2 := by rw [← hs2e, drop_data]
      have hs2z : s2.size ≤ 100000 := by show s2.data.toList.length ≤ _; rw [hs2d, List.length_drop]; omega
      obtain ⟨k, hk⟩ : ∃ k, spanB hexN s2.data.toList = k := ⟨_, rfl⟩
      have hkl : k ≤ s.size - 2 := by rw [← hk, hs2d]; have := spanB_le hexN (s.data.toList.drop 2); rw [List.length_drop] at this; exact this
      have Hk := Lib.hid (fun w => run_known 62 hex1_enter hexN hex1_any s2 hs2z k hk w)
      rw [hs2d] at hk
      by_cases hk0 : 0 < k
      · obtain ⟨v, hv⟩ : ∃ v, s.extract 2 (2 + k) = v := ⟨_, rfl⟩
        have hvd : v.data.toList = (s.data.toList.drop 2).take k := by rw [← hv, ext_data, Nat.add_sub_cancel_left]
        have hvsz : v.size ≤ 100000 := by
          show v.data.toList.length ≤ _; rw [hvd, List.length_take]; omega
        have hvx : ∀ c ∈ v.data.toList, hexN c.toNat = true := by rw [hvd, ← hk]; exact span_take_all hexN _
        obtain ⟨o2, ho2⟩ : ∃ o, wholeK 16 v.data.toList = o := ⟨_, rfl⟩
        have Hw2 := Lib.hid (fun w => whole_known v hvsz 16 (.inr rfl) hvx o2 ho2 w)
        rw [hvd] at ho2
        have Hr := Lib.hid (hcons.trans (by rw [hk, if_pos ⟨hp, hk0⟩, ho2]))
        clear hcons hh hl0 hn hud husz hux ho hp hs2d hs2z hk hvd hvsz hvx ho2 Hw hq hu
        cases o2 with
        | none =>
          rw [wholeV_no] at Hw2
          go_enter Tryd.func44, Tryd.ntmps44
          go_wp2_with (first | (go_at_call 61; refine (Hs.out _).mono ?_; rintro e w1 ⟨rfl, b1⟩; have t1 : TokB w w1 := TokB.next (by first | assumption | exact TokB.start w) b1; clear b1; obtain ⟨⟨ka1, kb1, kc1, kd1, ke1, kf1, kg1⟩, fa1, fb1, fc1, fd1, fe1, ff1, fg1⟩ := t1.cells) | ((go_at_call 11; refine (Hn.out _).mono ?_; rintro e w2 ⟨rfl, b2⟩; have t2 : TokB w w2 := TokB.next (by first | assumption | exact TokB.start w) b2; clear b2; obtain ⟨⟨ka2, kb2, kc2, kd2, ke2, kf2, kg2⟩, fa2, fb2, fc2, fd2, fe2, ff2, fg2⟩ := t2.cells); clear Hn) | (go_at_call 23; refine (Hp.out _).mono ?_; rintro e w3 ⟨rfl, b3⟩; have t3 : TokB w w3 := TokB.next (by first | assumption | exact TokB.start w) b3; clear b3; obtain ⟨⟨ka3, kb3, kc3, kd3, ke3, kf3, kg3⟩, fa3, fb3, fc3, fd3, fe3, ff3, fg3⟩ := t3.cells) | (go_at_call 11; refine (Hk.out _).mono ?_; rintro e w4 ⟨rfl, b4⟩; have t4 : TokB w w4 := TokB.next (by first | assumption | exact TokB.start w) b4; clear b4; obtain ⟨⟨ka4, kb4, kc4, kd4, ke4, kf4, kg4⟩, fa4, fb4, fc4, fd4, fe4, ff4, fg4⟩ := t4.cells) | (go_at_call 64; refine (Hw2.out _).mono ?_; rintro e w5 ⟨rfl, b5⟩; have t5 : TokB w w5 := TokB.next (by first | assumption | exact TokB.start w) b5; clear b5; obtain ⟨⟨ka5, kb5, kc5, kd5, ke5, kf5, kg5⟩, fa5, fb5, fc5, fd5, fe5, ff5, fg5⟩ := t5.cells))
          exact bodyPost_ret (v := .tuple #[.agg #[.int .i64 0, .string ⟨#[]⟩, .int .i64 0, .int .i64 0, .int .i64 0, .int .i64 0, .bool false], .int .i64 (-1)]) (by simp [results, Tryd.results44, go_sem, ka5, kb5, kc5, kd5, ke5, kf5, kg5]) rfl ⟨by rw [Hr.out, fd_numno], t5.set7 _ _ _ _ _ _ _⟩
        | some x =>
          rw [wholeV_yes] at Hw2
          go_enter Tryd.func44, Tryd.ntmps44
          go_wp2_with (first | (go_at_call 61; refine (Hs.out _).mono ?_; rintro e w1 ⟨rfl, b1⟩; have t1 : TokB w w1 := TokB.next (by first | assumption | exact TokB.start w) b1; clear b1; obtain ⟨⟨ka1, kb1, kc1, kd1, ke1, kf1, kg1⟩, fa1, fb1, fc1, fd1, fe1, ff1, fg1⟩ := t1.cells) | ((go_at_call 11; refine (Hn.out _).mono ?_; rintro e w2 ⟨rfl, b2⟩; have t2 : TokB w w2 := TokB.next (by first | assumption | exact TokB.start w) b2; clear b2; obtain ⟨⟨ka2, kb2, kc2, kd2, ke2, kf2, kg2⟩, fa2, fb2, fc2, fd2, fe2, ff2, fg2⟩ := t2.cells); clear Hn) | (go_at_call 23; refine (Hp.out _).mono ?_; rintro e w3 ⟨rfl, b3⟩; have t3 : TokB w w3 := TokB.next (by first | assumption | exact TokB.start w) b3; clear b3; obtain ⟨⟨ka3, kb3, kc3, kd3, ke3, kf3, kg3⟩, fa3, fb3, fc3, fd3, fe3, ff3, fg3⟩ := t3.cells) | (go_at_call 11; refine (Hk.out _).mono ?_; rintro e w4 ⟨rfl, b4⟩; have t4 : TokB w w4 := TokB.next (by first | assumption | exact TokB.start w) b4; clear b4; obtain ⟨⟨ka4, kb4, kc4, kd4, ke4, kf4, kg4⟩, fa4, fb4, fc4, fd4, fe4, ff4, fg4⟩ := t4.cells) | (go_at_call 64; refine (Hw2.out _).mono ?_; rintro e w5 ⟨rfl, b5⟩; have t5 : TokB w w5 := TokB.next (by first | assumption | exact TokB.start w) b5; clear b5; obtain ⟨⟨ka5, kb5, kc5, kd5, ke5, kf5, kg5⟩, fa5, fb5, fc5, fd5, fe5, ff5, fg5⟩ := t5.cells))
          exact bodyPost_ret (v := .tuple #[.agg #[.int .i64 5, .string ⟨#[]⟩, .int .i64 x, .int .i64 0, .int .i64 0, .int .i64 0, .bool false], .int .i64 ((2 + k : Nat) : Int)]) (by simp [results, Tryd.results44, go_sem, ka5, kb5, kc5, kd5, ke5, kf5, kg5]) rfl ⟨by rw [Hr.out, fd_num], t5.set7 _ _ _ _ _ _ _⟩
      · obtain rfl : k = 0 := by omega
        rw [hud] at ho
        have Hr := Lib.hid (hcons.trans (by rw [if_neg (fun h => by rw [hk] at h; exact hk0 h.2), hn, ho]))
        clear hcons hh hl0 hn hud husz hux ho hp hs2d hs2z hk hq hkl hk0
        cases o with
        | none =>
          rw [wholeV_no] at Hw
          go_enter Tryd.func44, Tryd.ntmps44
          go_wp2_with (first | (go_at_call 61; refine (Hs.out _).mono ?_; rintro e w1 ⟨rfl, b1⟩; have t1 : TokB w w1 := TokB.next (by first | assumption | exact TokB.start w) b1; clear b1; obtain ⟨⟨ka1, kb1, kc1, kd1, ke1, kf1, kg1⟩, fa1, fb1, fc1, fd1, fe1, ff1, fg1⟩ := t1.cells) | ((go_at_call 11; refine (Hn.out _).mono ?_; rintro e w2 ⟨rfl, b2⟩; have t2 : TokB w w2 := TokB.next (by first | assumption | exact TokB.start w) b2; clear b2; obtain ⟨⟨ka2, kb2, kc2, kd2, ke2, kf2, kg2⟩, fa2, fb2, fc2, fd2, fe2, ff2, fg2⟩ := t2.cells); clear Hn) | (go_at_call 23; refine (Hp.out _).mono ?_; rintro e w3 ⟨rfl, b3⟩; have t3 : TokB w w3 := TokB.next (by first | assumption | exact TokB.start w) b3; clear b3; obtain ⟨⟨ka3, kb3, kc3, kd3, ke3, kf3, kg3⟩, fa3, fb3, fc3, fd3, fe3, ff3, fg3⟩ := t3.cells) | (go_at_call 11; refine (Hk.out _).mono ?_; rintro e w4 ⟨rfl, b4⟩; have t4 : TokB w w4 := TokB.next (by first | assumption | exact TokB.start w) b4; clear b4; obtain ⟨⟨ka4, kb4, kc4, kd4, ke4, kf4, kg4⟩, fa4, fb4, fc4, fd4, fe4, ff4, fg4⟩ := t4.cells) | (go_at_call 64; refine (Hw.out _).mono ?_; rintro e w5 ⟨rfl, b5⟩; have t5 : TokB w w5 := TokB.next (by first | assumption | exact TokB.start w) b5; clear b5; obtain ⟨⟨ka5, kb5, kc5, kd5, ke5, kf5, kg5⟩, fa5, fb5, fc5, fd5, fe5, ff5, fg5⟩ := t5.cells))
          exact bodyPost_ret (v := .tuple #[.agg #[.int .i64 0, .string ⟨#[]⟩, .int .i64 0, .int .i64 0, .int .i64 0, .int .i64 0, .bool false], .int .i64 (-1)]) (by simp [results, Tryd.results44, go_sem, ka5, kb5, kc5, kd5, ke5, kf5, kg5]) rfl ⟨by rw [Hr.out, fd_numno], t5.set7 _ _ _ _ _ _ _⟩
        | some x =>
          rw [wholeV_yes] at Hw
          go_enter Tryd.func44, Tryd.ntmps44
          go_wp2_with (first | (go_at_call 61; refine (Hs.out _).mono ?_; rintro e w1 ⟨rfl, b1⟩; have t1 : TokB w w1 := TokB.next (by first | assumption | exact TokB.start w) b1; clear b1; obtain ⟨⟨ka1, kb1, kc1, kd1, ke1, kf1, kg1⟩, fa1, fb1, fc1, fd1, fe1, ff1, fg1⟩ := t1.cells) | ((go_at_call 11; refine (Hn.out _).mono ?_; rintro e w2 ⟨rfl, b2⟩; have t2 : TokB w w2 := TokB.next (by first | assumption | exact TokB.start w) b2; clear b2; obtain ⟨⟨ka2, kb2, kc2, kd2, ke2, kf2, kg2⟩, fa2, fb2, fc2, fd2, fe2, ff2, fg2⟩ := t2.cells); clear Hn) | (go_at_call 23; refine (Hp.out _).mono ?_; rintro e w3 ⟨rfl, b3⟩; have t3 : TokB w w3 := TokB.next (by first | assumption | exact TokB.start w) b3; clear b3; obtain ⟨⟨ka3, kb3, kc3, kd3, ke3, kf3, kg3⟩, fa3, fb3, fc3, fd3, fe3, ff3, fg3⟩ := t3.cells) | (go_at_call 11; refine (Hk.out _).mono ?_; rintro e w4 ⟨rfl, b4⟩; have t4 : TokB w w4 := TokB.next (by first | assumption | exact TokB.start w) b4; clear b4; obtain ⟨⟨ka4, kb4, kc4, kd4, ke4, kf4, kg4⟩, fa4, fb4, fc4, fd4, fe4, ff4, fg4⟩ := t4.cells) | (go_at_call 64; refine (Hw.out _).mono ?_; rintro e w5 ⟨rfl, b5⟩; have t5 : TokB w w5 := TokB.next (by first | assumption | exact TokB.start w) b5; clear b5; obtain ⟨⟨ka5, kb5, kc5, kd5, ke5, kf5, kg5⟩, fa5, fb5, fc5, fd5, fe5, ff5, fg5⟩ := t5.cells))
          exact bodyPost_ret (v := .tuple #[.agg #[.int .i64 5, .string ⟨#[]⟩, .int .i64 x, .int .i64 0, .int .i64 0, .int .i64 0, .bool false], .int .i64 n]) (by simp [results, Tryd.results44, go_sem, ka5, kb5, kc5, kd5, ke5, kf5, kg5]) rfl ⟨by rw [Hr.out, fd_num], t5.set7 _ _ _ _ _ _ _⟩
    · have Hp := Lib.hid (fun w => prefix_low s ⟨#[48, 120]⟩ false (by rw [prefix2]; exact decide_eq_false hp) w)
      rw [hud] at ho
      have Hr := Lib.hid (hcons.trans (by rw [if_neg (fun h => hp h.1), hn, ho]))
      clear hcons hh hl0 hn hud husz hux ho hp hq
      cases o with
      | none =>
        rw [wholeV_no] at Hw
        go_enter Tryd.func44, Tryd.ntmps44
        go_wp2_with (first | (go_at_call 61; refine (Hs.out _).mono ?_; rintro e w1 ⟨rfl, b1⟩; have t1 : TokB w w1 := TokB.next (by first | assumption | exact TokB.start w) b1; clear b1; obtain ⟨⟨ka1, kb1, kc1, kd1, ke1, kf1, kg1⟩, fa1, fb1, fc1, fd1, fe1, ff1, fg1⟩ := t1.cells) | ((go_at_call 11; refine (Hn.out _).mono ?_; rintro e w2 ⟨rfl, b2⟩; have t2 : TokB w w2 := TokB.next (by first | assumption | exact TokB.start w) b2; clear b2; obtain ⟨⟨ka2, kb2, kc2, kd2, ke2, kf2, kg2⟩, fa2, fb2, fc2, fd2, fe2, ff2, fg2⟩ := t2.cells); clear Hn) | (go_at_call 23; refine (Hp.out _).mono ?_; rintro e w3 ⟨rfl, b3⟩; have t3 : TokB w w3 := TokB.next (by first | assumption | exact TokB.start w) b3; clear b3; obtain ⟨⟨ka3, kb3, kc3, kd3, ke3, kf3, kg3⟩, fa3, fb3, fc3, fd3, fe3, ff3, fg3⟩ := t3.cells) | (go_at_call 64; refine (Hw.out _).mono ?_; rintro e w5 ⟨rfl, b5⟩; have t5 : TokB w w5 := TokB.next (by first | assumption | exact TokB.start w) b5; clear b5; obtain ⟨⟨ka5, kb5, kc5, kd5, ke5, kf5, kg5⟩, fa5, fb5, fc5, fd5, fe5, ff5, fg5⟩ := t5.cells))
        exact bodyPost_ret (v := .tuple #[.agg #[.int .i64 0, .string ⟨#[]⟩, .int .i64 0, .int .i64 0, .int .i64 0, .int .i64 0, .bool false], .int .i64 (-1)]) (by simp [results, Tryd.results44, go_sem, ka5, kb5, kc5, kd5, ke5, kf5, kg5]) rfl ⟨by rw [Hr.out, fd_numno], t5.set7 _ _ _ _ _ _ _⟩
      | some x =>
        rw [wholeV_yes] at Hw
        go_enter Tryd.func44, Tryd.ntmps44
        go_wp2_with (first | (go_at_call 61; refine (Hs.out _).mono ?_; rintro e w1 ⟨rfl, b1⟩; have t1 : TokB w w1 := TokB.next (by first | assumption | exact TokB.start w) b1; clear b1; obtain ⟨⟨ka1, kb1, kc1, kd1, ke1, kf1, kg1⟩, fa1, fb1, fc1, fd1, fe1, ff1, fg1⟩ := t1.cells) | ((go_at_call 11; refine (Hn.out _).mono ?_; rintro e w2 ⟨rfl, b2⟩; have t2 : TokB w w2 := TokB.next (by first | assumption | exact TokB.start w) b2; clear b2; obtain ⟨⟨ka2, kb2, kc2, kd2, ke2, kf2, kg2⟩, fa2, fb2, fc2, fd2, fe2, ff2, fg2⟩ := t2.cells); clear Hn) | (go_at_call 23; refine (Hp.out _).mono ?_; rintro e w3 ⟨rfl, b3⟩; have t3 : TokB w w3 := TokB.next (by first | assumption | exact TokB.start w) b3; clear b3; obtain ⟨⟨ka3, kb3, kc3, kd3, ke3, kf3, kg3⟩, fa3, fb3, fc3, fd3, fe3, ff3, fg3⟩ := t3.cells) | (go_at_call 64; refine (Hw.out _).mono ?_; rintro e w5 ⟨rfl, b5⟩; have t5 : TokB w w5 := TokB.next (by first | assumption | exact TokB.start w) b5; clear b5; obtain ⟨⟨ka5, kb5, kc5, kd5, ke5, kf5, kg5⟩, fa5, fb5, fc5, fd5, fe5, ff5, fg5⟩ := t5.cells))
        exact bodyPost_ret (v := .tuple #[.agg #[.int .i64 5, .string ⟨#[]⟩, .int .i64 x, .int .i64 0, .int .i64 0, .int .i64 0, .bool false], .int .i64 n]) (by simp [results, Tryd.results44, go_sem, ka5, kb5, kc5, kd5, ke5, kf5, kg5]) rfl ⟨by rw [Hr.out, fd_num], t5.set7 _ _ _ _ _ _ _⟩
end Go.Proofs.YtnidkdjapieinaaDoor
