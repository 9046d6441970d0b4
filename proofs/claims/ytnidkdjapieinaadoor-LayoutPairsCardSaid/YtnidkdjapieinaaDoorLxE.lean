/- Contracts of the finders of a name, a constructor's name, a symbol, a mark. Condition: the text has a byte, and at most 100000. -/
import Derived.Test.YtnidkdjapieinaaDoorLxD
namespace Go.Proofs.YtnidkdjapieinaaDoor
open Go.RowKit Go.Shelf

def tkV (t : Tk) : Value := .agg #[.int .i64 t.kind, .string ⟨t.text.toArray⟩, .int .i64 t.num, .int .i64 0, .int .i64 0, .int .i64 0, .bool false]
def noTk : Value := .agg #[.int .i64 0, .string ⟨#[]⟩, .int .i64 0, .int .i64 0, .int .i64 0, .int .i64 0, .bool false]
def fdV : Fd → Value
  | .no => .tuple #[noTk, .int .i64 0]
  | .bad => .tuple #[noTk, .int .i64 (-1)]
  | .tok t n => .tuple #[tkV t, .int .i64 n]

theorem fd_no : Ending.returned (fdV .no) = .returned (.tuple #[.agg #[.int .i64 0, .string ⟨#[]⟩, .int .i64 0, .int .i64 0, .int .i64 0, .int .i64 0, .bool false], .int .i64 0]) := rfl
theorem fd_bad : Ending.returned (fdV .bad) = .returned (.tuple #[.agg #[.int .i64 0, .string ⟨#[]⟩, .int .i64 0, .int .i64 0, .int .i64 0, .int .i64 0, .bool false], .int .i64 (-1)]) := rfl
theorem fd_tok (k : Nat) (u : ByteArray) (x n : Nat) : Ending.returned (fdV (.tok ⟨k, u.data.toList, x⟩ n)) = .returned (.tuple #[.agg #[.int .i64 k, .string u, .int .i64 x, .int .i64 0, .int .i64 0, .int .i64 0, .bool false], .int .i64 n]) := rfl
theorem head_of (s : ByteArray) (h : 0 < s.size) : s.data.toList = s[0] :: s.data.toList.drop 1 := by
  have e := List.drop_eq_getElem_cons (l := s.data.toList) (i := 0) h
  rw [List.drop_zero] at e
  exact e
theorem take_data (s : ByteArray) (n : Nat) : (s.extract 0 n).data.toList = s.data.toList.take n := by
  rw [Lib.extract_data]; simp
theorem of_data (s : ByteArray) : (⟨s.data.toList.toArray⟩ : ByteArray) = s := rfl
theorem run_known (F : FuncId) (eg : ∀ args w, (callFunc F args).run Tryd.prog w = .ok (.enter F args) w) (p : Nat → Bool)
    (hp : ∀ (c : UInt8) (w : World), Calls Tryd.prog F #[.int .u8 c.toNat] w fun e w' => e = .returned (.bool (p c.toNat)) ∧ Below w.heap.size w w')
    (s : ByteArray) (hs : s.size ≤ 100000) (n : Nat) (hn : spanB p s.data.toList = n) (w : World) :
    Calls Tryd.prog 11 #[.string s, .func (.func F) #[] #[]] w fun e w' => e = .returned (.int .i64 n) ∧ Below w.heap.size w w' := by
  rw [← hn]; exact run_any F eg p hp s hs w

/-- The block of a finder's result, as it was made. -/
abbrev tokO : Obj := .cells #[.int .i64 0, .string ⟨#[]⟩, .int .i64 0, .int .i64 0, .int .i64 0, .int .i64 0, .bool false] 35
def TokB (w a : World) : Prop := Below (w.alloc tokO).heap.size (w.alloc tokO) a
theorem TokB.start (w : World) : TokB w (w.alloc tokO) := Below.refl _ _
theorem TokB.next {w a b : World} (h : TokB w a) (k : Below a.heap.size a b) : TokB w b := chain h k
theorem TokB.low {w a : World} (h : TokB w a) : Below w.heap.size w a := chain ((Below.refl _ w).alloc (Nat.le_refl _) _) h
theorem TokB.lt {w a : World} (h : TokB w a) : w.heap.size < a.heap.size := Nat.lt_of_lt_of_le (by simp) h.size
theorem TokB.cells {w a : World} (h : TokB w a) : (a.cell? ⟨w.heap.size, 0, none⟩ = some (.int .i64 0) ∧ a.cell? ⟨w.heap.size, 1, none⟩ = some (.string ⟨#[]⟩) ∧ a.cell? ⟨w.heap.size, 2, none⟩ = some (.int .i64 0) ∧ a.cell? ⟨w.heap.size, 3, none⟩ = some (.int .i64 0) ∧ a.cell? ⟨w.heap.size, 4, none⟩ = some (.int .i64 0) ∧ a.cell? ⟨w.heap.size, 5, none⟩ = some (.int .i64 0) ∧ a.cell? ⟨w.heap.size, 6, none⟩ = some (.bool false)) ∧
    (a.frozen? ⟨w.heap.size, 0, none⟩ = false ∧ a.frozen? ⟨w.heap.size, 1, none⟩ = false ∧ a.frozen? ⟨w.heap.size, 2, none⟩ = false ∧ a.frozen? ⟨w.heap.size, 3, none⟩ = false ∧ a.frozen? ⟨w.heap.size, 4, none⟩ = false ∧ a.frozen? ⟨w.heap.size, 5, none⟩ = false ∧ a.frozen? ⟨w.heap.size, 6, none⟩ = false) := by
  have hl : w.heap.size < (w.alloc tokO).heap.size := by simp
  have hc : ∀ i, a.cell? ⟨w.heap.size, i, none⟩ = (w.alloc tokO).cell? ⟨w.heap.size, i, none⟩ := fun i => h.cell hl
  have hf : ∀ i, a.frozen? ⟨w.heap.size, i, none⟩ = (w.alloc tokO).frozen? ⟨w.heap.size, i, none⟩ := fun i => h.frozen hl
  simp only [hc, hf]
  simp [go_sem]

theorem TokB.set7 {w a : World} (h : TokB w a) (v0 v1 v2 v3 v4 v5 v6 : Value) :
    Below w.heap.size w (((((((a.setCell ⟨w.heap.size, 0, none⟩ v0).setCell ⟨w.heap.size, 1, none⟩ v1).setCell ⟨w.heap.size, 2, none⟩ v2).setCell ⟨w.heap.size, 3, none⟩ v3).setCell ⟨w.heap.size, 4, none⟩ v4).setCell ⟨w.heap.size, 5, none⟩ v5).setCell ⟨w.heap.size, 6, none⟩ v6) :=
  ((((((h.low.setCell (Nat.le_refl _) _).setCell (Nat.le_refl _) _).setCell (Nat.le_refl _) _).setCell (Nat.le_refl _) _).setCell (Nat.le_refl _) _).setCell (Nat.le_refl _) _).setCell (Nat.le_refl _) _
set_option maxRecDepth 100000 in
set_option maxHeartbeats 4000000 in
theorem name_any (s : ByteArray) (hs : s.size ≤ 100000) (h0 : 0 < s.size) (w : World) :
    Calls Tryd.prog 41 #[.string s] w fun e w' => e = .returned (fdV (nameK s.data.toList)) ∧ Below w.heap.size w w' := by
  have hh := head_of s h0
  cases hq : smallN s[0].toNat with
  | false =>
    have hr : nameK s.data.toList = .no := by rw [hh]; simp only [nameK, hq]; rfl
    have Hr := Lib.hid hr; clear hr hh
    have Hc := Lib.hid (fun w => small_any s[0] w); simp only [hq] at Hc; clear hq
    go_enter Tryd.func41, Tryd.ntmps41
    go_wp2_with (go_at_call 56; refine (Hc.out _).mono ?_; rintro e w1 ⟨rfl, b1⟩; have t1 : TokB w w1 := TokB.next (by first | assumption | exact TokB.start w) b1; clear b1; obtain ⟨⟨ka1, kb1, kc1, kd1, ke1, kf1, kg1⟩, fa1, fb1, fc1, fd1, fe1, ff1, fg1⟩ := t1.cells)
    exact bodyPost_ret (v := .tuple #[.agg #[.int .i64 0, .string ⟨#[]⟩, .int .i64 0, .int .i64 0, .int .i64 0, .int .i64 0, .bool false], .int .i64 0]) (by simp [results, Tryd.results41, go_sem, ka1, kb1, kc1, kd1, ke1, kf1, kg1]) rfl ⟨by rw [Hr.out, fd_no], t1.set7 _ _ _ _ _ _ _⟩
  | true =>
    obtain ⟨n, hn⟩ : ∃ n, spanB nameN s.data.toList = n := ⟨_, rfl⟩
    have hns : n ≤ s.size := by rw [← hn]; exact spanB_le _ _
    obtain ⟨u, hu⟩ : ∃ u, s.extract 0 n = u := ⟨_, rfl⟩
    have hud : u.data.toList = s.data.toList.take n := by rw [← hu, take_data]
    have Hw := Lib.hid (fun w => Word_any u w)
    have hr : nameK s.data.toList = .tok ⟨if u.data.toList ∈ wordsL then 9 else 1, u.data.toList, 0⟩ n := by
      rw [hud]; rw [hh] at hn ⊢; simp only [nameK, hq, hn]; rfl
    have Hn := Lib.hid (fun w => run_known 57 inName_enter nameN inName_any s hs n hn w)
    have Hs := Lib.hid (fun w => small_any s[0] w); simp only [hq] at Hs
    have Hr := Lib.hid hr
    clear hr hh hn hq hud
    by_cases hm : u.data.toList ∈ wordsL
    · simp only [hm, decide_true] at Hw
      have Hr := Lib.hid (Hr.out.trans (by rw [if_pos hm]))
      clear hm
      go_enter Tryd.func41, Tryd.ntmps41
      go_wp2_with (first | (go_at_call 56; refine (Hs.out _).mono ?_; rintro e w1 ⟨rfl, b1⟩; have t1 : TokB w w1 := TokB.next (by first | assumption | exact TokB.start w) b1; clear b1; obtain ⟨⟨ka1, kb1, kc1, kd1, ke1, kf1, kg1⟩, fa1, fb1, fc1, fd1, fe1, ff1, fg1⟩ := t1.cells) | (go_at_call 11; refine (Hn.out _).mono ?_; rintro e w2 ⟨rfl, b2⟩; have t2 : TokB w w2 := TokB.next (by first | assumption | exact TokB.start w) b2; clear b2; obtain ⟨⟨ka2, kb2, kc2, kd2, ke2, kf2, kg2⟩, fa2, fb2, fc2, fd2, fe2, ff2, fg2⟩ := t2.cells) | (go_at_call 58; refine (Hw.out _).mono ?_; rintro e w3 ⟨rfl, b3⟩; have t3 : TokB w w3 := TokB.next (by first | assumption | exact TokB.start w) b3; clear b3; obtain ⟨⟨ka3, kb3, kc3, kd3, ke3, kf3, kg3⟩, fa3, fb3, fc3, fd3, fe3, ff3, fg3⟩ := t3.cells))
      exact bodyPost_ret (v := .tuple #[.agg #[.int .i64 9, .string u, .int .i64 0, .int .i64 0, .int .i64 0, .int .i64 0, .bool false], .int .i64 n]) (by simp [results, Tryd.results41, go_sem, ka3, kb3, kc3, kd3, ke3, kf3, kg3]) rfl ⟨by rw [Hr.out, fd_tok]; rfl, t3.set7 _ _ _ _ _ _ _⟩
    · simp only [hm, decide_false] at Hw
      have Hr := Lib.hid (Hr.out.trans (by rw [if_neg hm]))
      clear hm
      go_enter Tryd.func41, Tryd.ntmps41
      go_wp2_with (first | (go_at_call 56; refine (Hs.out _).mono ?_; rintro e w1 ⟨rfl, b1⟩; have t1 : TokB w w1 := TokB.next (by first | assumption | exact TokB.start w) b1; clear b1; obtain ⟨⟨ka1, kb1, kc1, kd1, ke1, kf1, kg1⟩, fa1, fb1, fc1, fd1, fe1, ff1, fg1⟩ := t1.cells) | (go_at_call 11; refine (Hn.out _).mono ?_; rintro e w2 ⟨rfl, b2⟩; have t2 : TokB w w2 := TokB.next (by first | assumption | exact TokB.start w) b2; clear b2; obtain ⟨⟨ka2, kb2, kc2, kd2, ke2, kf2, kg2⟩, fa2, fb2, fc2, fd2, fe2, ff2, fg2⟩ := t2.cells) | (go_at_call 58; refine (Hw.out _).mono ?_; rintro e w3 ⟨rfl, b3⟩; have t3 : TokB w w3 := TokB.next (by first | assumption | exact TokB.start w) b3; clear b3; obtain ⟨⟨ka3, kb3, kc3, kd3, ke3, kf3, kg3⟩, fa3, fb3, fc3, fd3, fe3, ff3, fg3⟩ := t3.cells))
      exact bodyPost_ret (v := .tuple #[.agg #[.int .i64 1, .string u, .int .i64 0, .int .i64 0, .int .i64 0, .int .i64 0, .bool false], .int .i64 n]) (by simp [results, Tryd.results41, go_sem, ka3, kb3, kc3, kd3, ke3, kf3, kg3]) rfl ⟨by rw [Hr.out, fd_tok]; rfl, t3.set7 _ _ _ _ _ _ _⟩

set_option maxRecDepth 100000 in
set_option maxHeartbeats 4000000 in
theorem con_any (s : ByteArray) (hs : s.size ≤ 100000) (h0 : 0 < s.size) (w : World) :
    Calls Tryd.prog 42 #[.string s] w fun e w' => e = .returned (fdV (conK s.data.toList)) ∧ Below w.heap.size w w' := by
  have hh := head_of s h0
  cases hq : capN s[0].toNat with
  | false =>
    have hr : conK s.data.toList = .no := by rw [hh]; simp only [conK, hq]; rfl
    have Hr := Lib.hid hr; clear hr hh
    have Hc := Lib.hid (fun w => capital_any s[0] w); simp only [hq] at Hc; clear hq
    go_enter Tryd.func42, Tryd.ntmps42
    go_wp2_with (go_at_call 59; refine (Hc.out _).mono ?_; rintro e w1 ⟨rfl, b1⟩; have t1 : TokB w w1 := TokB.next (by first | assumption | exact TokB.start w) b1; clear b1; obtain ⟨⟨ka1, kb1, kc1, kd1, ke1, kf1, kg1⟩, fa1, fb1, fc1, fd1, fe1, ff1, fg1⟩ := t1.cells)
    exact bodyPost_ret (v := .tuple #[.agg #[.int .i64 0, .string ⟨#[]⟩, .int .i64 0, .int .i64 0, .int .i64 0, .int .i64 0, .bool false], .int .i64 0]) (by simp [results, Tryd.results42, go_sem, ka1, kb1, kc1, kd1, ke1, kf1, kg1]) rfl ⟨by rw [Hr.out, fd_no], t1.set7 _ _ _ _ _ _ _⟩
  | true =>
    obtain ⟨n, hn⟩ : ∃ n, spanB nameN s.data.toList = n := ⟨_, rfl⟩
    have hns : n ≤ s.size := by rw [← hn]; exact spanB_le _ _
    obtain ⟨u, hu⟩ : ∃ u, s.extract 0 n = u := ⟨_, rfl⟩
    have hud : u.data.toList = s.data.toList.take n := by rw [← hu, take_data]
    have hr : conK s.data.toList = .tok ⟨2, u.data.toList, 0⟩ n := by
      rw [hud]; rw [hh] at hn ⊢; simp only [conK, hq, hn]; rfl
    have Hn := Lib.hid (fun w => run_known 57 inName_enter nameN inName_any s hs n hn w)
    have Hs := Lib.hid (fun w => capital_any s[0] w); simp only [hq] at Hs
    have Hr := Lib.hid hr
    clear hr hh hn hq hud
    go_enter Tryd.func42, Tryd.ntmps42
    go_wp2_with (first | (go_at_call 59; refine (Hs.out _).mono ?_; rintro e w1 ⟨rfl, b1⟩; have t1 : TokB w w1 := TokB.next (by first | assumption | exact TokB.start w) b1; clear b1; obtain ⟨⟨ka1, kb1, kc1, kd1, ke1, kf1, kg1⟩, fa1, fb1, fc1, fd1, fe1, ff1, fg1⟩ := t1.cells) | (go_at_call 11; refine (Hn.out _).mono ?_; rintro e w2 ⟨rfl, b2⟩; have t2 : TokB w w2 := TokB.next (by first | assumption | exact TokB.start w) b2; clear b2; obtain ⟨⟨ka2, kb2, kc2, kd2, ke2, kf2, kg2⟩, fa2, fb2, fc2, fd2, fe2, ff2, fg2⟩ := t2.cells))
    exact bodyPost_ret (v := .tuple #[.agg #[.int .i64 2, .string u, .int .i64 0, .int .i64 0, .int .i64 0, .int .i64 0, .bool false], .int .i64 n]) (by simp [results, Tryd.results42, go_sem, ka2, kb2, kc2, kd2, ke2, kf2, kg2]) rfl ⟨by rw [Hr.out, fd_tok]; rfl, t2.set7 _ _ _ _ _ _ _⟩

end Go.Proofs.YtnidkdjapieinaaDoor
