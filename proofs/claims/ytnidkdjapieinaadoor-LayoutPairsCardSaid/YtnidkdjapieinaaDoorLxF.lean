/- Contracts of the finders of a symbol and of a mark, and of strings.IndexByte at a byte. -/
import Derived.Test.YtnidkdjapieinaaDoorLxE
namespace Go.Proofs.YtnidkdjapieinaaDoor
open Go.RowKit Go.Shelf

theorem ix_any (s : ByteArray) (b : UInt8) (k : Int) (h : Lib.indexByte s.data.toList b = k) (w : World) :
    Calls Tryd.prog 22 #[.string s, .int .u8 b.toNat] w fun e w' => e = .returned (.int .i64 k) ∧ w' = w := by
  have := Tryd.strings_IndexByte s b.toNat w
  rw [show ((b.toNat : Int).toNat.toUInt8) = b by simp] at this
  rw [h] at this
  exact this
theorem ix_low (s : ByteArray) (b : UInt8) (k : Int) (h : Lib.indexByte s.data.toList b = k) (w : World) :
    Calls Tryd.prog 22 #[.string s, .int .u8 b.toNat] w fun e w' => e = .returned (.int .i64 k) ∧ Below w.heap.size w w' := by
  refine (ix_any s b k h w).mono ?_
  rintro e w' ⟨rfl, rfl⟩
  exact ⟨rfl, Below.refl _ _⟩
theorem mark_cases (c : UInt8) : (markN c.toNat = true ∧ 0 ≤ Lib.indexByte [40, 41, 91, 93, 44, 59, 96, 123, 125] c) ∨ (markN c.toNat = false ∧ Lib.indexByte [40, 41, 91, 93, 44, 59, 96, 123, 125] c = -1) := by
  have h : ∀ n, n < 256 → (markN n = true ∧ 0 ≤ Lib.indexByte [40, 41, 91, 93, 44, 59, 96, 123, 125] (UInt8.ofNat n)) ∨ (markN n = false ∧ Lib.indexByte [40, 41, 91, 93, 44, 59, 96, 123, 125] (UInt8.ofNat n) = -1) := by decide +kernel
  have := h c.toNat (UInt8.toNat_lt c)
  rwa [UInt8.ofNat_toNat] at this

set_option maxRecDepth 100000 in
set_option maxHeartbeats 4000000 in
theorem mark_any (s : ByteArray) (hs : s.size ≤ 100000) (h0 : 0 < s.size) (w : World) :
    Calls Tryd.prog 47 #[.string s] w fun e w' => e = .returned (fdV (markK s.data.toList)) ∧ Below w.heap.size w w' := by
  have hh := head_of s h0
  rcases mark_cases s[0] with ⟨hq, hk⟩ | ⟨hq, hk⟩
  · obtain ⟨k, hke⟩ : ∃ k, Lib.indexByte [40, 41, 91, 93, 44, 59, 96, 123, 125] s[0] = k := ⟨_, rfl⟩
    rw [hke] at hk
    have hk0 : decide (k < 0) = false := by simp; omega
    have hk1 : ¬ k < 0 := by omega
    obtain ⟨u, hu⟩ : ∃ u, s.extract 0 1 = u := ⟨_, rfl⟩
    have hud : u.data.toList = [s[0]] := by rw [← hu, take_data, hh]; rfl
    have hr : markK s.data.toList = .tok ⟨8, u.data.toList, 0⟩ 1 := by rw [hud, hh]; simp only [markK, hq]; rfl
    have Hr := Lib.hid hr
    have Hx := Lib.hid (fun w => ix_low ⟨#[40, 41, 91, 93, 44, 59, 96, 123, 125]⟩ s[0] k hke w)
    clear hr hh hq hud hke
    go_enter Tryd.func47, Tryd.ntmps47
    go_wp2_with (go_at_call 22; refine (Hx.out _).mono ?_; rintro e w1 ⟨rfl, b1⟩; have t1 : TokB w w1 := TokB.next (by first | assumption | exact TokB.start w) b1; clear b1; obtain ⟨⟨ka1, kb1, kc1, kd1, ke1, kf1, kg1⟩, fa1, fb1, fc1, fd1, fe1, ff1, fg1⟩ := t1.cells)
    exact bodyPost_ret (v := .tuple #[.agg #[.int .i64 8, .string u, .int .i64 0, .int .i64 0, .int .i64 0, .int .i64 0, .bool false], .int .i64 1]) (by simp [results, Tryd.results47, go_sem, ka1, kb1, kc1, kd1, ke1, kf1, kg1]) rfl ⟨by rw [Hr.out, fd_tok]; rfl, t1.set7 _ _ _ _ _ _ _⟩
  · have hr : markK s.data.toList = .no := by rw [hh]; simp only [markK, hq]; rfl
    have Hr := Lib.hid hr
    have Hx := Lib.hid (fun w => ix_low ⟨#[40, 41, 91, 93, 44, 59, 96, 123, 125]⟩ s[0] (-1) hk w)
    clear hr hh hq hk
    go_enter Tryd.func47, Tryd.ntmps47
    go_wp2_with (go_at_call 22; refine (Hx.out _).mono ?_; rintro e w1 ⟨rfl, b1⟩; have t1 : TokB w w1 := TokB.next (by first | assumption | exact TokB.start w) b1; clear b1; obtain ⟨⟨ka1, kb1, kc1, kd1, ke1, kf1, kg1⟩, fa1, fb1, fc1, fd1, fe1, ff1, fg1⟩ := t1.cells)
    exact bodyPost_ret (v := .tuple #[.agg #[.int .i64 0, .string ⟨#[]⟩, .int .i64 0, .int .i64 0, .int .i64 0, .int .i64 0, .bool false], .int .i64 0]) (by simp [results, Tryd.results47, go_sem, ka1, kb1, kc1, kd1, ke1, kf1, kg1]) rfl ⟨by rw [Hr.out, fd_no], t1.set7 _ _ _ _ _ _ _⟩

set_option maxRecDepth 100000 in
set_option maxHeartbeats 4000000 in
theorem symbol1_any (s : ByteArray) (hs : s.size ≤ 100000) (h0 : 0 < s.size) (w : World) :
    Calls Tryd.prog 43 #[.string s] w fun e w' => e = .returned (fdV (symbolK s.data.toList)) ∧ Below w.heap.size w w' := by
  have hh := head_of s h0
  obtain ⟨n, hn⟩ : ∃ n, spanB symN s.data.toList = n := ⟨_, rfl⟩
  have hns : n ≤ s.size := by rw [← hn]; exact spanB_le _ _
  have Hn := Lib.hid (fun w => run_known 20 symbol_enter symN symbol_any s hs n hn w)
  by_cases hz : n = 0
  · have hr : symbolK s.data.toList = .no := by rw [hh] at hn ⊢; simp only [symbolK, hn, hz]; rfl
    have Hr := Lib.hid hr
    have hb : ((n : Int) == 0) = true := by rw [beq_iff_eq]; omega
    clear hr hh hn hz
    go_enter Tryd.func43, Tryd.ntmps43
    go_wp2_with (go_at_call 11; refine (Hn.out _).mono ?_; rintro e w1 ⟨rfl, b1⟩; have t1 : TokB w w1 := TokB.next (by first | assumption | exact TokB.start w) b1; clear b1; obtain ⟨⟨ka1, kb1, kc1, kd1, ke1, kf1, kg1⟩, fa1, fb1, fc1, fd1, fe1, ff1, fg1⟩ := t1.cells)
    exact bodyPost_ret (v := .tuple #[.agg #[.int .i64 0, .string ⟨#[]⟩, .int .i64 0, .int .i64 0, .int .i64 0, .int .i64 0, .bool false], .int .i64 0]) (by simp [results, Tryd.results43, go_sem, ka1, kb1, kc1, kd1, ke1, kf1, kg1]) rfl ⟨by rw [Hr.out, fd_no], t1.set7 _ _ _ _ _ _ _⟩
  · have hb : ((n : Int) == 0) = false := by rw [beq_eq_false_iff_ne]; omega
    obtain ⟨u, hu⟩ : ∃ u, s.extract 0 n = u := ⟨_, rfl⟩
    have hud : u.data.toList = s.data.toList.take n := by rw [← hu, take_data]
    have Hw := Lib.hid (fun w => Sign_any u w)
    have hr : symbolK s.data.toList = .tok ⟨if s[0].toNat = 58 then 4 else if u.data.toList ∈ signsL then 10 else 3, u.data.toList, 0⟩ n := by
      rw [hud]; rw [hh] at hn ⊢; simp only [symbolK, hn, if_neg hz]
    have Hr := Lib.hid hr
    clear hr hh hn hud hz
    by_cases h58 : s[0].toNat = 58
    · have Hr := Lib.hid (Hr.out.trans (by rw [if_pos h58]))
      have hc : ((s[0].toNat : Int) == 58) = true := by rw [beq_iff_eq]; omega
      clear h58
      go_enter Tryd.func43, Tryd.ntmps43
      go_wp2_with (first | (go_at_call 11; refine (Hn.out _).mono ?_; rintro e w1 ⟨rfl, b1⟩; have t1 : TokB w w1 := TokB.next (by first | assumption | exact TokB.start w) b1; clear b1; obtain ⟨⟨ka1, kb1, kc1, kd1, ke1, kf1, kg1⟩, fa1, fb1, fc1, fd1, fe1, ff1, fg1⟩ := t1.cells) | (go_at_call 60; refine (Hw.out _).mono ?_; rintro e w2 ⟨rfl, b2⟩; have t2 : TokB w w2 := TokB.next (by first | assumption | exact TokB.start w) b2; clear b2; obtain ⟨⟨ka2, kb2, kc2, kd2, ke2, kf2, kg2⟩, fa2, fb2, fc2, fd2, fe2, ff2, fg2⟩ := t2.cells))
      exact bodyPost_ret (v := .tuple #[.agg #[.int .i64 4, .string u, .int .i64 0, .int .i64 0, .int .i64 0, .int .i64 0, .bool false], .int .i64 n]) (by simp [results, Tryd.results43, go_sem, ka1, kb1, kc1, kd1, ke1, kf1, kg1]) rfl ⟨by rw [Hr.out, fd_tok]; rfl, t1.set7 _ _ _ _ _ _ _⟩
    · have Hr := Lib.hid (Hr.out.trans (by rw [if_neg h58]))
      have hc : ((s[0].toNat : Int) == 58) = false := by rw [beq_eq_false_iff_ne]; omega
      clear h58
      by_cases hm : u.data.toList ∈ signsL
      · simp only [hm, decide_true] at Hw
        have Hr := Lib.hid (Hr.out.trans (by rw [if_pos hm]))
        clear hm
        go_enter Tryd.func43, Tryd.ntmps43
        go_wp2_with (first | (go_at_call 11; refine (Hn.out _).mono ?_; rintro e w1 ⟨rfl, b1⟩; have t1 : TokB w w1 := TokB.next (by first | assumption | exact TokB.start w) b1; clear b1; obtain ⟨⟨ka1, kb1, kc1, kd1, ke1, kf1, kg1⟩, fa1, fb1, fc1, fd1, fe1, ff1, fg1⟩ := t1.cells) | (go_at_call 60; refine (Hw.out _).mono ?_; rintro e w2 ⟨rfl, b2⟩; have t2 : TokB w w2 := TokB.next (by first | assumption | exact TokB.start w) b2; clear b2; obtain ⟨⟨ka2, kb2, kc2, kd2, ke2, kf2, kg2⟩, fa2, fb2, fc2, fd2, fe2, ff2, fg2⟩ := t2.cells))
        exact bodyPost_ret (v := .tuple #[.agg #[.int .i64 10, .string u, .int .i64 0, .int .i64 0, .int .i64 0, .int .i64 0, .bool false], .int .i64 n]) (by simp [results, Tryd.results43, go_sem, ka2, kb2, kc2, kd2, ke2, kf2, kg2]) rfl ⟨by rw [Hr.out, fd_tok]; rfl, t2.set7 _ _ _ _ _ _ _⟩
      · simp only [hm, decide_false] at Hw
        have Hr := Lib.hid (Hr.out.trans (by rw [if_neg hm]))
        clear hm
        go_enter Tryd.func43, Tryd.ntmps43
        go_wp2_with (first | (go_at_call 11; refine (Hn.out _).mono ?_; rintro e w1 ⟨rfl, b1⟩; have t1 : TokB w w1 := TokB.next (by first | assumption | exact TokB.start w) b1; clear b1; obtain ⟨⟨ka1, kb1, kc1, kd1, ke1, kf1, kg1⟩, fa1, fb1, fc1, fd1, fe1, ff1, fg1⟩ := t1.cells) | (go_at_call 60; refine (Hw.out _).mono ?_; rintro e w2 ⟨rfl, b2⟩; have t2 : TokB w w2 := TokB.next (by first | assumption | exact TokB.start w) b2; clear b2; obtain ⟨⟨ka2, kb2, kc2, kd2, ke2, kf2, kg2⟩, fa2, fb2, fc2, fd2, fe2, ff2, fg2⟩ := t2.cells))
        exact bodyPost_ret (v := .tuple #[.agg #[.int .i64 3, .string u, .int .i64 0, .int .i64 0, .int .i64 0, .int .i64 0, .bool false], .int .i64 n]) (by simp [results, Tryd.results43, go_sem, ka2, kb2, kc2, kd2, ke2, kf2, kg2]) rfl ⟨by rw [Hr.out, fd_tok]; rfl, t2.set7 _ _ _ _ _ _ _⟩
end Go.Proofs.YtnidkdjapieinaaDoor
