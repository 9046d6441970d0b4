/- Contracts of lex.char and lex.gap. -/
import Derived.Test.YtnidkdjapieinaaDoorLxI2
import Derived.Test.YtnidkdjapieinaaDoorLxP
namespace Go.Proofs.YtnidkdjapieinaaDoor
set_option linter.unusedSimpArgs false
open Go.RowKit Go.Shelf

theorem character_known (s : ByteArray) (hs : s.size ≤ 100000) (q : UInt8) (hq : q.toNat ≠ 92) (o : Option (Nat × Nat)) (h : charK s.data.toList q.toNat = o) (w : World) :
    Calls Tryd.prog 65 #[.string s, .int .u8 q.toNat] w fun e w' => e = .returned (charV o) ∧ Below w.heap.size w w' := by
  rw [← h]; exact character_any s hs q hq w
theorem charV_no : charV none = .tuple #[.int .i64 0, .int .i64 0] := rfl
theorem charV_yes (c n : Nat) : charV (some (c, n)) = .tuple #[.int .i64 c, .int .i64 n] := rfl
theorem byte_eq (s : ByteArray) (k : Nat) (h : k < s.size) (a : UInt8) (r : List UInt8) (hd : s.data.toList.drop k = a :: r) : s[k] = a := by
  have e := List.drop_eq_getElem_cons (l := s.data.toList) (i := k) h
  rw [hd] at e
  exact ((List.cons.inj e).1).symm
theorem fd_tok6 (x n : Nat) : Ending.returned (fdV (.tok ⟨6, [], x⟩ n)) = .returned (.tuple #[.agg #[.int .i64 6, .string ⟨#[]⟩, .int .i64 x, .int .i64 0, .int .i64 0, .int .i64 0, .bool false], .int .i64 n]) := rfl

set_option maxRecDepth 100000 in
set_option maxHeartbeats 1500000 in
theorem char_any (s : ByteArray) (hs : s.size ≤ 100000) (h0 : 0 < s.size) (w : World) :
    Calls Tryd.prog 45 #[.string s] w fun e w' => e = .returned (fdV (charTK s.data.toList)) ∧ Below w.heap.size w w' := by
  have hh := head_of s h0
  obtain ⟨a, r, hl⟩ : ∃ a r, s.data.toList = a :: r := ⟨_, _, hh⟩
  obtain ⟨_, ha⟩ := head_eq s a r hl
  clear hh
  by_cases hq : a.toNat = 39
  · have hr : charTK s.data.toList = (match charK r 39 with
      | none => .bad
      | some (c, n) => match r.drop n with
        | [] => .bad
        | b :: _ => if b.toNat = 39 then .tok ⟨6, [], c⟩ (n + 2) else .bad) := by rw [hl]; simp only [charTK]; rw [if_pos hq]; rfl
    have d0 : ((s[0].toNat : Int) != 39) = false := by rw [ha, bne_eq_false_iff_eq]; omega
    have ht := tail_ext s _ _ hl
    obtain ⟨t, hte⟩ : ∃ t, s.extract 1 s.size = t := ⟨_, rfl⟩
    rw [hte] at ht
    have hsz : r.length + 1 = s.size := by show _ = s.data.toList.length; rw [hl]; rfl
    have htz : t.size = r.length := by show t.data.toList.length = _; rw [ht]
    have hs1 : 1 ≤ s.size := h0
    cases ho : charK r 39 with
    | none =>
      have hr := hr.trans (by rw [ho])
      have Hc := Lib.hid (fun w => character_known t (by omega) 39 (by decide) none (by rw [ht]; exact ho) w)
      rw [charV_no] at Hc
      have Hr := Lib.hid hr
      clear hr hl ha ht hsz htz ho hq
      go_enter Tryd.func45, Tryd.ntmps45
      go_wp2_with (go_at_call 65; refine (Hc.out _).mono ?_; rintro e w1 ⟨rfl, b1⟩; have t1 : TokB w w1 := TokB.next (by first | assumption | exact TokB.start w) b1; clear b1; obtain ⟨⟨ka1, kb1, kc1, kd1, ke1, kf1, kg1⟩, fa1, fb1, fc1, fd1, fe1, ff1, fg1⟩ := t1.cells)
      exact bodyPost_ret (v := .tuple #[.agg #[.int .i64 0, .string ⟨#[]⟩, .int .i64 0, .int .i64 0, .int .i64 0, .int .i64 0, .bool false], .int .i64 (-1)]) (by simp [results, Tryd.results45, go_sem, ka1, kb1, kc1, kd1, ke1, kf1, kg1]) rfl ⟨by rw [Hr.out, fd_bad], t1.set7 _ _ _ _ _ _ _⟩
    | some p =>
      obtain ⟨c, n⟩ := p
      have hr := hr.trans (by rw [ho])
      simp only at hr
      obtain ⟨⟨n1, n2⟩, n3, _⟩ := char_take r 39 c n ho
      have hnb : n + 1 ≤ s.size := by omega
      have Hc := Lib.hid (fun w => character_known t (by omega) 39 (by decide) (some (c, n)) (by rw [ht]; exact ho) w)
      rw [charV_yes] at Hc
      have d1 : ((n : Int) == 0) = false := by rw [beq_eq_false_iff_ne]; omega
      cases hd : r.drop n with
      | nil =>
        have hrl : r.length ≤ n := List.drop_eq_nil_iff.1 hd
        have hr := hr.trans (by rw [hd])
        have Hr := Lib.hid hr
        have d2 : decide (s.size < n + 2) = true := by simp; omega
        have d2b : decide ((s.size : Int) < (n : Int) + 2) = true := by simp; omega
        clear hr hl ha ht hsz htz ho hq hd hrl
        go_enter Tryd.func45, Tryd.ntmps45
        go_wp2_with (go_at_call 65; refine (Hc.out _).mono ?_; rintro e w1 ⟨rfl, b1⟩; have t1 : TokB w w1 := TokB.next (by first | assumption | exact TokB.start w) b1; clear b1; obtain ⟨⟨ka1, kb1, kc1, kd1, ke1, kf1, kg1⟩, fa1, fb1, fc1, fd1, fe1, ff1, fg1⟩ := t1.cells)
        exact bodyPost_ret (v := .tuple #[.agg #[.int .i64 0, .string ⟨#[]⟩, .int .i64 0, .int .i64 0, .int .i64 0, .int .i64 0, .bool false], .int .i64 (-1)]) (by simp [results, Tryd.results45, go_sem, ka1, kb1, kc1, kd1, ke1, kf1, kg1]) rfl ⟨by rw [Hr.out, fd_bad], t1.set7 _ _ _ _ _ _ _⟩
      | cons b r' =>
        have hlt : n < r.length := by have := congrArg List.length hd; simp at this; omega
        have hr := hr.trans (by rw [hd])
        simp only at hr
        have d2 : decide (s.size < n + 2) = false := by simp; omega
        have d2b : decide ((s.size : Int) < (n : Int) + 2) = false := by simp; omega
        have hlt2 : n + 1 < s.size := by omega
        have hb : s[n + 1] = b := byte_eq s (n + 1) hlt2 b r' (by rw [hl, List.drop_succ_cons]; exact hd)
        have hwn : IntKind.i64.wrap ((n : Int) + 1) = (n : Int) + 1 := IntWalk.i64_in _ (by omega)
        by_cases h39 : b.toNat = 39
        · have Hr := Lib.hid (hr.trans (if_pos h39))
          have d3 : ((s[n + 1].toNat : Int) != 39) = false := by rw [hb, bne_eq_false_iff_eq]; omega
          clear hr hl ha ht hsz htz ho hq hd hb h39 hwn n3
          go_enter Tryd.func45, Tryd.ntmps45
          go_wp2_with (go_at_call 65; refine (Hc.out _).mono ?_; rintro e w1 ⟨rfl, b1⟩; have t1 : TokB w w1 := TokB.next (by first | assumption | exact TokB.start w) b1; clear b1; obtain ⟨⟨ka1, kb1, kc1, kd1, ke1, kf1, kg1⟩, fa1, fb1, fc1, fd1, fe1, ff1, fg1⟩ := t1.cells)
          exact bodyPost_ret (v := .tuple #[.agg #[.int .i64 6, .string ⟨#[]⟩, .int .i64 c, .int .i64 0, .int .i64 0, .int .i64 0, .bool false], .int .i64 ((n + 2 : Nat) : Int)]) (by simp [results, Tryd.results45, go_sem, ka1, kb1, kc1, kd1, ke1, kf1, kg1]) rfl ⟨by rw [Hr.out, fd_tok6], t1.set7 _ _ _ _ _ _ _⟩
        · have Hr := Lib.hid (hr.trans (if_neg h39))
          have d3 : ((s[n + 1].toNat : Int) != 39) = true := by rw [hb, bne_iff_ne]; omega
          clear hr hl ha ht hsz htz ho hq hd hb h39 hwn n3
          go_enter Tryd.func45, Tryd.ntmps45
          go_wp2_with (go_at_call 65; refine (Hc.out _).mono ?_; rintro e w1 ⟨rfl, b1⟩; have t1 : TokB w w1 := TokB.next (by first | assumption | exact TokB.start w) b1; clear b1; obtain ⟨⟨ka1, kb1, kc1, kd1, ke1, kf1, kg1⟩, fa1, fb1, fc1, fd1, fe1, ff1, fg1⟩ := t1.cells)
          exact bodyPost_ret (v := .tuple #[.agg #[.int .i64 0, .string ⟨#[]⟩, .int .i64 0, .int .i64 0, .int .i64 0, .int .i64 0, .bool false], .int .i64 (-1)]) (by simp [results, Tryd.results45, go_sem, ka1, kb1, kc1, kd1, ke1, kf1, kg1]) rfl ⟨by rw [Hr.out, fd_bad], t1.set7 _ _ _ _ _ _ _⟩
  · have hr : charTK s.data.toList = .no := by rw [hl]; simp only [charTK]; rw [if_neg hq]
    have d0 : ((s[0].toNat : Int) != 39) = true := by rw [ha, bne_iff_ne]; omega
    have Hr := Lib.hid hr
    clear hr hl ha hq
    go_enter Tryd.func45, Tryd.ntmps45
    go_wp2
    exact bodyPost_ret (v := .tuple #[.agg #[.int .i64 0, .string ⟨#[]⟩, .int .i64 0, .int .i64 0, .int .i64 0, .int .i64 0, .bool false], .int .i64 0]) (by simp [results, Tryd.results45, go_sem, hs]) rfl ⟨by rw [Hr.out, fd_no], by exact (by ((repeat (first | exact Below.refl _ _ | (refine Below.alloc ?_ (by first | (simp [World.setCell]; done) | (simp [World.setCell]; omega)) _) | (refine Below.setCell ?_ (by first | (simp [World.setCell]; done) | (simp [World.setCell]; omega)) _) | refine Below.drew ?_ | (refine Below.trans ?_ ((below_drewN _ _).mono (by first | (simp [World.setCell]; done) | (simp [World.setCell]; omega))))))))⟩

set_option maxRecDepth 100000 in
set_option maxHeartbeats 1500000 in
theorem gap_any (s : ByteArray) (hs : s.size ≤ 100000) (w : World) :
    Calls Tryd.prog 66 #[.string s] w fun e w' => e = .returned (.int .i64 (gapK s.data.toList)) ∧ Below w.heap.size w w' := by
  obtain ⟨g, hg⟩ : ∃ g, gapK s.data.toList = g := ⟨_, rfl⟩
  rw [hg]
  by_cases hp : s.data.toList.take 2 = [92, 38]
  · have Hp := Lib.hid (fun w => prefix_low s ⟨#[92, 38]⟩ true (by rw [prefix2]; exact decide_eq_true hp) w)
    have hr : gapK s.data.toList = 2 := by
      match h : s.data.toList, hp with
      | a :: b :: r, hp =>
        simp only [List.take_succ_cons, List.take_zero, List.cons.injEq] at hp
        obtain ⟨rfl, rfl, _⟩ := hp
        rfl
    rw [hg] at hr
    have Hr := Lib.hid hr
    clear hr hp hg
    go_enter Tryd.func66, Tryd.ntmps66
    go_wp2_with (go_at_call 23; refine (Hp.out _).mono ?_; rintro e w1 ⟨rfl, b1⟩; have l1 : Below w.heap.size w w1 := chain (Below.refl _ w) b1; clear b1)
    go_ret
    exact ⟨by rw [Hr.out]; rfl, l1⟩
  · have Hp := Lib.hid (fun w => prefix_low s ⟨#[92, 38]⟩ false (by rw [prefix2]; exact decide_eq_false hp) w)
    cases hl : s.data.toList with
    | nil =>
      have hne : s.toList.isEmpty = true := by rw [Lib.toList_data, hl]; rfl
      rw [hl] at hg
      have Hr : Hid (g = 0) := Lib.hid hg.symm
      clear hl hp hg
      go_enter Tryd.func66, Tryd.ntmps66
      go_wp2_with (go_at_call 23; refine (Hp.out _).mono ?_; rintro e w1 ⟨rfl, b1⟩; have l1 : Below w.heap.size w w1 := chain (Below.refl _ w) b1; clear b1)
      go_ret
      exact ⟨by rw [Hr.out]; rfl, l1⟩
    | cons a r =>
      rw [hl] at hg
      obtain ⟨h0, ha⟩ := head_eq s a r hl
      have hne := nonempty s h0
      by_cases h92 : a.toNat = 92
      · have d0 : ((s[0].toNat : Int) != 92) = false := by rw [ha, bne_eq_false_iff_eq]; omega
        have ht := tail_ext s _ _ hl
        obtain ⟨t, hte⟩ : ∃ t, s.extract 1 s.size = t := ⟨_, rfl⟩
        rw [hte] at ht
        have hsz : r.length + 1 = s.size := by show _ = s.data.toList.length; rw [hl]; rfl
        have htz : t.size = r.length := by show t.data.toList.length = _; rw [ht]
        have hs1 : 1 ≤ s.size := h0
        obtain ⟨n, hn⟩ : ∃ n, spanB blankN t.data.toList = n := ⟨_, rfl⟩
        have hnt : n ≤ r.length := by rw [← hn, ht]; exact spanB_le _ _
        have hnb : n + 1 ≤ s.size := by omega
        have Hn := Lib.hid (fun w => run_known 12 blank_enter blankN blank_any t (by omega) n hn w)
        rw [ht] at hn
        have hr : g = (if n = 0 then 0 else match r.drop n with | c :: _ => if c.toNat = 92 then n + 2 else 0 | [] => 0) := by
          rw [← hg]
          simp only [gapK]
          rw [if_pos h92]
          cases r with
          | nil => simp only [spanB] at hn; subst hn; rfl
          | cons b r =>
            simp only
            rw [if_neg, hn]
            · rfl
            intro hb
            refine hp ?_
            rw [hl]
            simp only [List.take_succ_cons, List.take_zero]
            rw [UInt8.toNat_inj.1 (show a.toNat = (92 : UInt8).toNat from h92), UInt8.toNat_inj.1 (show b.toNat = (38 : UInt8).toNat from hb)]
        by_cases hn0 : n = 0
        · have Hr := Lib.hid (hr.trans (if_pos hn0))
          have d1 : ((n : Int) == 0) = true := by rw [beq_iff_eq]; omega
          clear hr hg hl ha ht hsz htz hn hn0 h92 hp hnt
          go_enter Tryd.func66, Tryd.ntmps66
          go_wp2_with (first | (go_at_call 23; refine (Hp.out _).mono ?_; rintro e w1 ⟨rfl, b1⟩; have l1 : Below w.heap.size w w1 := chain (Below.refl _ w) b1; clear b1) | (go_at_call 11; refine (Hn.out _).mono ?_; rintro e w2 ⟨rfl, b2⟩; have l2 : Below w.heap.size w w2 := chain l1 b2; clear b2))
          go_ret
          exact ⟨by rw [Hr.out]; rfl, l2⟩
        · have hr := hr.trans (if_neg hn0)
          have d1 : ((n : Int) == 0) = false := by rw [beq_eq_false_iff_ne]; omega
          cases hd : r.drop n with
          | nil =>
            have hrl : r.length ≤ n := List.drop_eq_nil_iff.1 hd
            have Hr := Lib.hid (hr.trans (by rw [hd]))
            have d2 : decide (s.size < n + 2) = true := by simp; omega
            have d2b : decide ((s.size : Int) < (n : Int) + 2) = true := by simp; omega
            clear hr hg hl ha ht hsz htz hn hn0 h92 hp hnt hd hrl
            go_enter Tryd.func66, Tryd.ntmps66
            go_wp2_with (first | (go_at_call 23; refine (Hp.out _).mono ?_; rintro e w1 ⟨rfl, b1⟩; have l1 : Below w.heap.size w w1 := chain (Below.refl _ w) b1; clear b1) | (go_at_call 11; refine (Hn.out _).mono ?_; rintro e w2 ⟨rfl, b2⟩; have l2 : Below w.heap.size w w2 := chain l1 b2; clear b2))
            go_ret
            exact ⟨by rw [Hr.out]; rfl, l2⟩
          | cons c r' =>
            have hlt : n < r.length := by have := congrArg List.length hd; simp at this; omega
            have hr := hr.trans (by rw [hd])
            simp only at hr
            have d2 : decide (s.size < n + 2) = false := by simp; omega
            have d2b : decide ((s.size : Int) < (n : Int) + 2) = false := by simp; omega
            have hlt2 : n + 1 < s.size := by omega
            have hb : s[n + 1] = c := byte_eq s (n + 1) hlt2 c r' (by rw [hl, List.drop_succ_cons]; exact hd)
            by_cases h39 : c.toNat = 92
            · have Hr := Lib.hid (hr.trans (if_pos h39))
              have d3 : ((s[n + 1].toNat : Int) != 92) = false := by rw [hb, bne_eq_false_iff_eq]; omega
              clear hr hg hl ha ht hsz htz hn hn0 h92 hp hnt hd hb h39
              go_enter Tryd.func66, Tryd.ntmps66
              go_wp2_with (first | (go_at_call 23; refine (Hp.out _).mono ?_; rintro e w1 ⟨rfl, b1⟩; have l1 : Below w.heap.size w w1 := chain (Below.refl _ w) b1; clear b1) | (go_at_call 11; refine (Hn.out _).mono ?_; rintro e w2 ⟨rfl, b2⟩; have l2 : Below w.heap.size w w2 := chain l1 b2; clear b2))
              go_ret
              exact ⟨by rw [Hr.out]; rfl, l2⟩
            · have Hr := Lib.hid (hr.trans (if_neg h39))
              have d3 : ((s[n + 1].toNat : Int) != 92) = true := by rw [hb, bne_iff_ne]; omega
              clear hr hg hl ha ht hsz htz hn hn0 h92 hp hnt hd hb h39
              go_enter Tryd.func66, Tryd.ntmps66
              go_wp2_with (first | (go_at_call 23; refine (Hp.out _).mono ?_; rintro e w1 ⟨rfl, b1⟩; have l1 : Below w.heap.size w w1 := chain (Below.refl _ w) b1; clear b1) | (go_at_call 11; refine (Hn.out _).mono ?_; rintro e w2 ⟨rfl, b2⟩; have l2 : Below w.heap.size w w2 := chain l1 b2; clear b2))
              go_ret
              exact ⟨by rw [Hr.out]; rfl, l2⟩
      · have hr : g = 0 := by rw [← hg]; simp only [gapK]; rw [if_neg h92]
        have d0 : ((s[0].toNat : Int) != 92) = true := by rw [ha, bne_iff_ne]; omega
        have Hr := Lib.hid hr
        clear hr hg hl ha h92 hp
        go_enter Tryd.func66, Tryd.ntmps66
        go_wp2_with (first | (go_at_call 23; refine (Hp.out _).mono ?_; rintro e w1 ⟨rfl, b1⟩; have l1 : Below w.heap.size w w1 := chain (Below.refl _ w) b1; clear b1))
        go_ret
        exact ⟨by rw [Hr.out]; rfl, l1⟩
end Go.Proofs.YtnidkdjapieinaaDoor
