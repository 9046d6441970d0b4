/- The document's lexer: the lexeme at a place. The document's lexer: the lexeme at a place: numbers, quotes, symbols, marks. -/
import Derived.Test.YtiflklmjmdhfoaaDoorLrE
import Derived.BigRegion
namespace Go.Proofs.YtiflklmjmdhfoaaDoor
open Go.RowKit Go.Shelf
set_option linter.unusedSimpArgs false
set_option linter.unusedVariables false

theorem run_known2 (s : ByteArray) (hs : s.size ≤ 100000) (at_ : Nat) (ha : at_ ≤ s.size) (n : Nat) (h : spanB nameN (s.data.toList.drop at_) = n) (w : World) :
    Calls Tryd.prog 55 #[.string s, .int .i64 at_] w fun e w' => e = .returned (.int .i64 n) ∧ Below w.heap.size w w' := by
  rw [← h]; exact rrun_any s hs at_ ha w
theorem quoted2_char (s : ByteArray) (hs : s.size ≤ 100000) (at_ : Nat) (ha : at_ < s.size) (h : s[at_].toNat = 39 ∨ s[at_].toNat = 34) (w : World) :
    Calls Tryd.prog 60 #[.string s, .int .i64 at_] w fun e w' => e = .returned (fdR (oneK (s.data.toList.drop at_))) ∧ Below w.heap.size w w' := by
  have hd := drop_cons s at_ ha
  rcases h with h | h
  · refine (rquoted_char s hs at_ ha h w).mono ?_
    rintro e w' ⟨rfl, hb⟩
    refine ⟨?_, hb⟩
    rw [hd, pre_no _ _ (by rw [h]; rfl) (by rw [h]; rfl) (by rw [h]; rfl), or_no (by simp [numberK, h, digN])]
    cases hc : charTK (s[at_] :: s.data.toList.drop (at_ + 1)) with
    | tok t n => rfl
    | bad => rfl
    | no =>
      exfalso
      simp only [charTK] at hc
      rw [if_pos h] at hc
      split at hc
      · cases hc
      · split at hc
        · cases hc
        · split at hc <;> cases hc
  · refine (rquoted_text s hs at_ ha h w).mono ?_
    rintro e w' ⟨rfl, hb⟩
    refine ⟨?_, hb⟩
    rw [hd, pre_no _ _ (by rw [h]; rfl) (by rw [h]; rfl) (by rw [h]; rfl), or_no (by simp [numberK, h, digN]), or_no (by simp [charTK, h])]
    cases hc : textK (s[at_] :: s.data.toList.drop (at_ + 1)) with
    | tok t n => rfl
    | bad => rfl
    | no =>
      exfalso
      simp only [textK] at hc
      rw [if_pos h] at hc
      exact textGo_no _ _ _ _ hc

theorem TokB.drew {w a : World} (h : TokB w a) : TokB w a.drew := Below.drew h
/-- The block of a token that is made anew, behind the result's block. -/
theorem rWord_known (u : ByteArray) (b : Bool) (h : decide (u.data.toList ∈ wordsL) = b) (w : World) : Calls Tryd.prog 22 #[.string u] w fun e w' => e = .returned (.bool b) ∧ Below w.heap.size w w' := by
  rw [← h]; exact rWord_any u w
theorem rSign_known (u : ByteArray) (b : Bool) (h : decide (u.data.toList ∈ signsL) = b) (w : World) : Calls Tryd.prog 24 #[.string u] w fun e w' => e = .returned (.bool b) ∧ Below w.heap.size w w' := by
  rw [← h]; exact rSign_any u w

set_option maxRecDepth 100000 in
set_option maxHeartbeats 8000000 in
theorem rlex_small (s : ByteArray) (hs : s.size ≤ 100000) (at_ : Nat) (ha : at_ < s.size) (h : smallN s[at_].toNat = true) (w : World) :
    Calls Tryd.prog 35 #[.string s, .int .i64 at_] w fun e w' => e = .returned (fdR (oneK (s.data.toList.drop at_))) ∧ Below w.heap.size w w' := by
  have hsl : s.data.toList.length = s.size := rfl
  have hd := drop_cons s at_ ha
  obtain ⟨n, hn⟩ : ∃ n, spanB nameN (s.data.toList.drop at_) = n := ⟨_, rfl⟩
  have hnl : at_ + n ≤ s.size := by have := spanB_le nameN (s.data.toList.drop at_); rw [List.length_drop, hsl, hn] at this; omega
  obtain ⟨u, hu⟩ : ∃ u, s.extract at_ (at_ + n) = u := ⟨_, rfl⟩
  have hud : u.data.toList = (s.data.toList.drop at_).take n := by rw [← hu, ext_data, Nat.add_sub_cancel_left]
  have huz : u.size = n := by show u.data.toList.length = n; rw [hud, List.length_take, List.length_drop, hsl]; omega
  have hone : oneK (s.data.toList.drop at_) = .tok ⟨if u.data.toList ∈ wordsL then 9 else 1, u.data.toList, 0⟩ n := by
    rw [hud, ← hn, hd]
    simp only [oneK, nameK, h, if_true, Fd.or]
  obtain ⟨R, hR⟩ : ∃ R, oneK (s.data.toList.drop at_) = R := ⟨_, rfl⟩
  rw [hR] at hone ⊢
  have Hsm := Lib.hid (fun w => bool_known rsmall_any s[at_] true h w)
  have Hrun := Lib.hid (fun w => run_known2 s hs at_ (by omega) n hn w)
  by_cases hm : u.data.toList ∈ wordsL
  · have HW := Lib.hid (fun w => rWord_known u true (decide_eq_true hm) w)
    have Hr := Lib.hid (hone.trans (by rw [if_pos hm]))
    clear hone hR hud hd h hm hn
    go_enter Tryd.func35, Tryd.ntmps35
    go_wp2_with (first | (go_at_call 54; refine (Hsm.out _).mono ?_; rintro e w1 ⟨rfl, b1⟩; have t1 : TokB w w1 := TokB.next (by first | assumption | exact TokB.start w) b1; clear b1; obtain ⟨⟨ka1, kb1, kc1, kd1, ke1, kf1, kg1⟩, fa1, fb1, fc1, fd1, fe1, ff1, fg1⟩ := t1.cells) | ((go_at_call 55; refine (Hrun.out _).mono ?_; rintro e w2 ⟨rfl, b2⟩; have t2 : TokB w w2 := TokB.next (by first | assumption | exact TokB.start w) b2; clear b2; obtain ⟨⟨ka2, kb2, kc2, kd2, ke2, kf2, kg2⟩, fa2, fb2, fc2, fd2, fe2, ff2, fg2⟩ := t2.cells); have lt2 := t2.size) | (go_at_call 22; refine (HW.out _).mono ?_; rintro e w3 ⟨rfl, b3⟩; have BT := (Blk.new w2 #[.int .i64 1, .string u, .int .i64 0, .int .i64 0, .int .i64 0, .int .i64 0, .bool false] 30).below b3 (by simp); have q0 := BT.cell 0; have q1 := BT.cell 1; have q2 := BT.cell 2; have q3 := BT.cell 3; have q4 := BT.cell 4; have q5 := BT.cell 5; have q6 := BT.cell 6; have qf := BT.free 0; simp only [List.getElem?_toArray, List.getElem?_cons_zero, List.getElem?_cons_succ] at q0 q1 q2 q3 q4 q5 q6; have t3 : TokB w w3 := TokB.next (TokB.next t2 ((Below.refl _ _).alloc (Nat.le_refl _) _)) b3; clear b3))
    have BT5 := BT.set 0 (.int .i64 9) (by simp)
    have t5 : TokB w (w3.setCell ⟨w2.heap.size, 0, none⟩ (.int .i64 9)) := Below.setCell t3 (p := ⟨w2.heap.size, 0, none⟩) lt2 _
    clear q0 q1 q2 q3 q4 q5 q6 qf t3 BT
    generalize w3.setCell ⟨w2.heap.size, 0, none⟩ (.int .i64 9) = W5 at BT5 t5 ⊢
    obtain ⟨⟨z0, z1, z2, z3, z4, z5, z6⟩, y0, y1, y2, y3, y4, y5, y6⟩ := t5.cells
    have q0 := BT5.cell 0
    have q1 := BT5.cell 1
    have q2 := BT5.cell 2
    have q3 := BT5.cell 3
    have q4 := BT5.cell 4
    have q5 := BT5.cell 5
    have q6 := BT5.cell 6
    simp at q0 q1 q2 q3 q4 q5 q6
    have hne : ¬ w2.heap.size = w.heap.size := by simp at lt2; omega
    have hne' : ¬ w.heap.size = w2.heap.size := by omega
    clear t1 t2 BT5
    generalize w2.heap.size = tb at q0 q1 q2 q3 q4 q5 q6 hne hne' ⊢
    clear lt2
    go_region
    go_wp2
    exact bodyPost_ret (v := .tuple #[.agg #[.int .i64 9, .string u, .int .i64 0, .int .i64 0, .int .i64 0, .int .i64 0, .bool false], .int .i64 n]) (by simp [results, Tryd.results35, go_sem, z0, z1, z2, z3, z4, z5, z6]) rfl ⟨by rw [Hr.out]; rfl, (t5.set7 _ _ _ _ _ _ _).drew⟩
  · have HW := Lib.hid (fun w => rWord_known u false (decide_eq_false hm) w)
    have Hr := Lib.hid (hone.trans (by rw [if_neg hm]))
    clear hone hR hud hd h hm hn
    go_enter Tryd.func35, Tryd.ntmps35
    go_wp2_with (first | (go_at_call 54; refine (Hsm.out _).mono ?_; rintro e w1 ⟨rfl, b1⟩; have t1 : TokB w w1 := TokB.next (by first | assumption | exact TokB.start w) b1; clear b1; obtain ⟨⟨ka1, kb1, kc1, kd1, ke1, kf1, kg1⟩, fa1, fb1, fc1, fd1, fe1, ff1, fg1⟩ := t1.cells) | ((go_at_call 55; refine (Hrun.out _).mono ?_; rintro e w2 ⟨rfl, b2⟩; have t2 : TokB w w2 := TokB.next (by first | assumption | exact TokB.start w) b2; clear b2; obtain ⟨⟨ka2, kb2, kc2, kd2, ke2, kf2, kg2⟩, fa2, fb2, fc2, fd2, fe2, ff2, fg2⟩ := t2.cells); have lt2 := t2.size) | (go_at_call 22; refine (HW.out _).mono ?_; rintro e w3 ⟨rfl, b3⟩; have BT := (Blk.new w2 #[.int .i64 1, .string u, .int .i64 0, .int .i64 0, .int .i64 0, .int .i64 0, .bool false] 30).below b3 (by simp); have q0 := BT.cell 0; have q1 := BT.cell 1; have q2 := BT.cell 2; have q3 := BT.cell 3; have q4 := BT.cell 4; have q5 := BT.cell 5; have q6 := BT.cell 6; have qf := BT.free 0; simp only [List.getElem?_toArray, List.getElem?_cons_zero, List.getElem?_cons_succ] at q0 q1 q2 q3 q4 q5 q6; have t3 : TokB w w3 := TokB.next (TokB.next t2 ((Below.refl _ _).alloc (Nat.le_refl _) _)) b3; clear b3))
    have BT5 := BT
    have t5 := t3
    clear q0 q1 q2 q3 q4 q5 q6 qf t3 BT
    generalize w3 = W5 at BT5 t5 ⊢
    obtain ⟨⟨z0, z1, z2, z3, z4, z5, z6⟩, y0, y1, y2, y3, y4, y5, y6⟩ := t5.cells
    have q0 := BT5.cell 0
    have q1 := BT5.cell 1
    have q2 := BT5.cell 2
    have q3 := BT5.cell 3
    have q4 := BT5.cell 4
    have q5 := BT5.cell 5
    have q6 := BT5.cell 6
    simp at q0 q1 q2 q3 q4 q5 q6
    have hne : ¬ w2.heap.size = w.heap.size := by simp at lt2; omega
    have hne' : ¬ w.heap.size = w2.heap.size := by omega
    clear t1 t2 BT5
    generalize w2.heap.size = tb at q0 q1 q2 q3 q4 q5 q6 hne hne' ⊢
    clear lt2
    go_region
    go_wp2
    exact bodyPost_ret (v := .tuple #[.agg #[.int .i64 1, .string u, .int .i64 0, .int .i64 0, .int .i64 0, .int .i64 0, .bool false], .int .i64 n]) (by simp [results, Tryd.results35, go_sem, z0, z1, z2, z3, z4, z5, z6]) rfl ⟨by rw [Hr.out]; rfl, (t5.set7 _ _ _ _ _ _ _).drew⟩

set_option maxRecDepth 100000 in
set_option maxHeartbeats 8000000 in
theorem rlex_cap (s : ByteArray) (hs : s.size ≤ 100000) (at_ : Nat) (ha : at_ < s.size) (h0 : smallN s[at_].toNat = false) (h : capN s[at_].toNat = true) (w : World) :
    Calls Tryd.prog 35 #[.string s, .int .i64 at_] w fun e w' => e = .returned (fdR (oneK (s.data.toList.drop at_))) ∧ Below w.heap.size w w' := by
  have hsl : s.data.toList.length = s.size := rfl
  have hd := drop_cons s at_ ha
  obtain ⟨n, hn⟩ : ∃ n, spanB nameN (s.data.toList.drop at_) = n := ⟨_, rfl⟩
  have hnl : at_ + n ≤ s.size := by have := spanB_le nameN (s.data.toList.drop at_); rw [List.length_drop, hsl, hn] at this; omega
  obtain ⟨u, hu⟩ : ∃ u, s.extract at_ (at_ + n) = u := ⟨_, rfl⟩
  have hud : u.data.toList = (s.data.toList.drop at_).take n := by rw [← hu, ext_data, Nat.add_sub_cancel_left]
  have hone : oneK (s.data.toList.drop at_) = .tok ⟨2, u.data.toList, 0⟩ n := by
    rw [hud, ← hn, hd]
    unfold oneK
    rw [or_no (by simp [nameK, h0])]
    simp only [conK, h, if_true, Fd.or]
  obtain ⟨R, hR⟩ : ∃ R, oneK (s.data.toList.drop at_) = R := ⟨_, rfl⟩
  rw [hR] at hone ⊢
  have Hsm := Lib.hid (fun w => bool_known rsmall_any s[at_] false h0 w)
  have Hcp := Lib.hid (fun w => bool_known rcapital_any s[at_] true h w)
  have Hrun := Lib.hid (fun w => run_known2 s hs at_ (by omega) n hn w)
  have Hr := Lib.hid hone
  clear hone hR hud hd h h0 hn
  have hw1 : IntKind.i64.wrap ((at_ : Int) + (n : Int)) = (at_ : Int) + (n : Int) := IntWalk.i64_in _ (by omega)
  go_enter Tryd.func35, Tryd.ntmps35
  go_wp2_with (first | (go_at_call 54; refine (Hsm.out _).mono ?_; rintro e w1 ⟨rfl, b1⟩; have t1 : TokB w w1 := TokB.next (by first | assumption | exact TokB.start w) b1; clear b1; obtain ⟨⟨ka1, kb1, kc1, kd1, ke1, kf1, kg1⟩, fa1, fb1, fc1, fd1, fe1, ff1, fg1⟩ := t1.cells) | (go_at_call 56; refine (Hcp.out _).mono ?_; rintro e w2 ⟨rfl, b2⟩; have t2 : TokB w w2 := TokB.next (by first | assumption | exact TokB.start w) b2; clear b2; obtain ⟨⟨ka2, kb2, kc2, kd2, ke2, kf2, kg2⟩, fa2, fb2, fc2, fd2, fe2, ff2, fg2⟩ := t2.cells))
  clear ka1 kb1 kc1 kd1 ke1 kf1 kg1 fa1 fb1 fc1 fd1 fe1 ff1 fg1 ka2 kb2 kc2 kd2 ke2 kf2 kg2 fa2 fb2 fc2 fd2 fe2 ff2 fg2 t1
  go_region_with (go_at_call 55; with_reducible refine (Hrun.out _).mono ?_; rintro e w3 ⟨rfl, b3⟩; have t3 : TokB w w3 := TokB.next (by first | assumption | exact t2.drew) b3; clear b3; obtain ⟨⟨z0, z1, z2, z3, z4, z5, z6⟩, y0, y1, y2, y3, y4, y5, y6⟩ := t3.cells)
  all_goals
    go_wp2
    refine bodyPost_ret (v := .tuple #[.agg #[.int .i64 2, .string u, .int .i64 0, .int .i64 0, .int .i64 0, .int .i64 0, .bool false], .int .i64 n]) (by simp [results, Tryd.results35, go_sem, z0, z1, z2, z3, z4, z5, z6]) rfl ?_
    refine ⟨by rw [Hr.out]; rfl, ?_⟩
    first | exact t3.set7 _ _ _ _ _ _ _ | exact (t3.set7 _ _ _ _ _ _ _).drew
end Go.Proofs.YtiflklmjmdhfoaaDoor

namespace Go.Proofs.YtiflklmjmdhfoaaDoor
open Go.RowKit Go.Shelf
set_option linter.unusedSimpArgs false
set_option linter.unusedVariables false

theorem num_known2 (s : ByteArray) (hs : s.size ≤ 100000) (at_ : Nat) (ha : at_ ≤ s.size) (b : Nat) (hb : b = 10 ∨ b = 16) (o : Option (Nat × Nat)) (h : numGo b (digP b) (s.data.toList.drop at_) 0 0 = o) (w : World) :
    Calls Tryd.prog 59 #[.string s, .int .i64 at_, .int .i64 b] w fun e w' => e = .returned (numV o) ∧ Below w.heap.size w w' := number_known s hs at_ ha b hb o h w
theorem one_dig (a : UInt8) (r : List UInt8) (h : digN a.toNat = true) : fdR (oneK (a :: r)) = fdR (numberK (a :: r)) := by
  obtain ⟨x1, x2, x3, x4, x5⟩ := (byte_excl a).2.2.2.1 h
  rw [pre_no a r x4 x5 x2]
  cases hn : numberK (a :: r) with
  | tok t n => rfl
  | bad => rfl
  | no =>
    exfalso
    rw [numberK_cons a r h] at hn
    split at hn <;> exact fdNum_no hn
def numR (k : Nat) : Option (Nat × Nat) → Value
  | none => fdV .no
  | some (x, m) => .tuple #[.agg #[.int .i64 5, .string ⟨#[]⟩, .int .i64 x, .int .i64 0, .int .i64 0, .int .i64 0, .bool false], .int .i64 ((k + m : Nat) : Int)]
theorem fdR_num (n : Nat) (k : Nat) (o : Option (Nat × Nat)) (w : Option Nat) (h : o = w.map fun y => (y, n)) : fdR (fdNum 5 (k + n) w) = numR k o := by
  subst h
  cases w <;> rfl

set_option maxRecDepth 100000 in
set_option maxHeartbeats 8000000 in
theorem rlex_dig (s : ByteArray) (hs : s.size ≤ 100000) (at_ : Nat) (ha : at_ < s.size) (h0 : smallN s[at_].toNat = false) (h1 : capN s[at_].toNat = false) (h : digN s[at_].toNat = true) (w : World) :
    Calls Tryd.prog 35 #[.string s, .int .i64 at_] w fun e w' => e = .returned (fdR (oneK (s.data.toList.drop at_))) ∧ Below w.heap.size w w' := by
  have hsl : s.data.toList.length = s.size := rfl
  have hd := drop_cons s at_ ha
  have hone : fdR (oneK (s.data.toList.drop at_)) = fdR (numberK (s.data.toList.drop at_)) := by rw [hd]; exact one_dig _ _ h
  have hcons := numberK_cons s[at_] (s.data.toList.drop (at_ + 1)) h
  rw [← hd, List.drop_drop] at hcons
  obtain ⟨R, hR⟩ : ∃ R, fdR (oneK (s.data.toList.drop at_)) = R := ⟨_, rfl⟩
  rw [hR] at hone ⊢
  rw [hcons] at hone
  have Hsm := Lib.hid (fun w => bool_known rsmall_any s[at_] false h0 w)
  have Hcp := Lib.hid (fun w => bool_known rcapital_any s[at_] false h1 w)
  have Hdg := Lib.hid (fun w => bool_known rdigit_any s[at_] true h w)
  clear hR hcons h0 h1
  by_cases hH : (s.data.toList.drop at_).take 2 = [48, 120] ∧ 0 < spanB hexN (s.data.toList.drop (at_ + 2))
  · rw [if_pos hH] at hone
    obtain ⟨hp, hx⟩ := hH
    have hlt2 : at_ + 2 < s.size := by
      rcases Nat.lt_or_ge (at_ + 2) s.size with g | g
      · exact g
      · rw [List.drop_eq_nil_of_le (show s.data.toList.length ≤ at_ + 2 by omega)] at hx; simp [spanB] at hx
    have hd1 := drop_cons s (at_ + 1) (by omega)
    rw [hd, hd1] at hp
    simp only [List.take_succ_cons, List.take_zero, List.cons.injEq] at hp
    obtain ⟨p1, p2, _⟩ := hp
    have hd2 := drop_cons s (at_ + 2) hlt2
    have hx2 : hexN s[at_ + 2].toNat = true := by
      rw [hd2] at hx
      cases g : hexN s[at_ + 2].toNat with
      | true => rfl
      | false => rw [spanP_zero _ _ _ g] at hx; omega
    obtain ⟨hv1, hv2⟩ := hexI_of _ hx2
    have Hhx := Lib.hid (fun w => hex_known s[at_ + 2] _ hv1 w)
    obtain ⟨d, hde⟩ : ∃ d, hexV s[at_ + 2].toNat = d := ⟨_, rfl⟩
    rw [hde] at Hhx
    have e1 : ((s[at_].toNat : Int) == 48) = true := (byte_num _ 48 (by omega)).1 p1
    have e2 : decide ((at_ : Int) + 2 < (s.size : Int)) = true := by simp; omega
    have e3 : ((s[at_ + 1].toNat : Int) == 120) = true := (byte_num _ 120 (by omega)).1 p2
    have e4 : decide ((0 : Int) ≤ (d : Int)) = true := by simp
    obtain ⟨o, ho⟩ : ∃ o, numGo 16 (digP 16) (s.data.toList.drop (at_ + 2)) 0 0 = o := ⟨_, rfl⟩
    have Hnum := Lib.hid (fun w => num_known2 s hs (at_ + 2) (by omega) 16 (.inr rfl) o ho w)
    have hnd := num_dig 16 (s.data.toList.drop (at_ + 2))
    rw [ho, show digP 16 = hexN from rfl] at hnd
    rw [fdR_num _ 2 o _ hnd] at hone
    have hnn : ∀ x n, o = some (x, n) → n ≤ s.size := by
      intro x n hh
      rw [hh] at hnd
      have h3 := spanB_le hexN (s.data.toList.drop (at_ + 2))
      rw [List.length_drop, hsl] at h3
      cases hw : wholeK 16 ((s.data.toList.drop (at_ + 2)).take (spanB hexN (s.data.toList.drop (at_ + 2)))) with
      | none => rw [hw] at hnd; cases hnd
      | some y => rw [hw] at hnd; simp only [Option.map_some, Option.some.injEq, Prod.mk.injEq] at hnd; omega
    clear hd hd1 hd2 hx hx2 hv1 hv2 hde p1 p2 ho hnd h
    cases o with
    | none =>
      rw [numV_no] at Hnum
      have Hr := Lib.hid hone
      clear hone hnn
      go_enter Tryd.func35, Tryd.ntmps35
      go_wp2_with (first | (go_at_call 54; refine (Hsm.out _).mono ?_; rintro e w1 ⟨rfl, b1⟩; have t1 : TokB w w1 := TokB.next (by first | assumption | exact TokB.start w) b1; clear b1; obtain ⟨⟨ka1, kb1, kc1, kd1, ke1, kf1, kg1⟩, fa1, fb1, fc1, fd1, fe1, ff1, fg1⟩ := t1.cells) | (go_at_call 56; refine (Hcp.out _).mono ?_; rintro e w2 ⟨rfl, b2⟩; have t2 : TokB w w2 := TokB.next (by first | assumption | exact TokB.start w) b2; clear b2; obtain ⟨⟨ka2, kb2, kc2, kd2, ke2, kf2, kg2⟩, fa2, fb2, fc2, fd2, fe2, ff2, fg2⟩ := t2.cells) | (go_at_call 57; refine (Hdg.out _).mono ?_; rintro e w3 ⟨rfl, b3⟩; have t3 : TokB w w3 := TokB.next (by first | assumption | exact TokB.start w) b3; clear b3; obtain ⟨⟨ka3, kb3, kc3, kd3, ke3, kf3, kg3⟩, fa3, fb3, fc3, fd3, fe3, ff3, fg3⟩ := t3.cells) | (go_at_call 58; refine (Hhx.out _).mono ?_; rintro e w4 ⟨rfl, b4⟩; have t4 : TokB w w4 := TokB.next (by first | assumption | exact TokB.start w) b4; clear b4; obtain ⟨⟨ka4, kb4, kc4, kd4, ke4, kf4, kg4⟩, fa4, fb4, fc4, fd4, fe4, ff4, fg4⟩ := t4.cells) | (go_at_call 59; refine (Hnum.out _).mono ?_; rintro e w5 ⟨rfl, b5⟩; have t5 : TokB w w5 := TokB.next (by first | assumption | exact TokB.start w) b5; clear b5; obtain ⟨⟨ka5, kb5, kc5, kd5, ke5, kf5, kg5⟩, fa5, fb5, fc5, fd5, fe5, ff5, fg5⟩ := t5.cells))
      exact bodyPost_ret (v := .tuple #[.agg #[.int .i64 0, .string ⟨#[]⟩, .int .i64 0, .int .i64 0, .int .i64 0, .int .i64 0, .bool false], .int .i64 0]) (by simp [results, Tryd.results35, go_sem, ka5, kb5, kc5, kd5, ke5, kf5, kg5]) rfl ⟨by rw [Hr.out]; rfl, t5.set7 _ _ _ _ _ _ _⟩
    | some q =>
      obtain ⟨x, n⟩ := q
      rw [numV_yes] at Hnum
      have hn := hnn x n rfl
      have Hr := Lib.hid hone
      clear hone hnn
      go_enter Tryd.func35, Tryd.ntmps35
      go_wp2_with (first | (go_at_call 54; refine (Hsm.out _).mono ?_; rintro e w1 ⟨rfl, b1⟩; have t1 : TokB w w1 := TokB.next (by first | assumption | exact TokB.start w) b1; clear b1; obtain ⟨⟨ka1, kb1, kc1, kd1, ke1, kf1, kg1⟩, fa1, fb1, fc1, fd1, fe1, ff1, fg1⟩ := t1.cells) | (go_at_call 56; refine (Hcp.out _).mono ?_; rintro e w2 ⟨rfl, b2⟩; have t2 : TokB w w2 := TokB.next (by first | assumption | exact TokB.start w) b2; clear b2; obtain ⟨⟨ka2, kb2, kc2, kd2, ke2, kf2, kg2⟩, fa2, fb2, fc2, fd2, fe2, ff2, fg2⟩ := t2.cells) | (go_at_call 57; refine (Hdg.out _).mono ?_; rintro e w3 ⟨rfl, b3⟩; have t3 : TokB w w3 := TokB.next (by first | assumption | exact TokB.start w) b3; clear b3; obtain ⟨⟨ka3, kb3, kc3, kd3, ke3, kf3, kg3⟩, fa3, fb3, fc3, fd3, fe3, ff3, fg3⟩ := t3.cells) | (go_at_call 58; refine (Hhx.out _).mono ?_; rintro e w4 ⟨rfl, b4⟩; have t4 : TokB w w4 := TokB.next (by first | assumption | exact TokB.start w) b4; clear b4; obtain ⟨⟨ka4, kb4, kc4, kd4, ke4, kf4, kg4⟩, fa4, fb4, fc4, fd4, fe4, ff4, fg4⟩ := t4.cells) | (go_at_call 59; refine (Hnum.out _).mono ?_; rintro e w5 ⟨rfl, b5⟩; have t5 : TokB w w5 := TokB.next (by first | assumption | exact TokB.start w) b5; clear b5; obtain ⟨⟨ka5, kb5, kc5, kd5, ke5, kf5, kg5⟩, fa5, fb5, fc5, fd5, fe5, ff5, fg5⟩ := t5.cells))
      exact bodyPost_ret (v := .tuple #[.agg #[.int .i64 5, .string ⟨#[]⟩, .int .i64 x, .int .i64 0, .int .i64 0, .int .i64 0, .bool false], .int .i64 ((n + 2 : Nat) : Int)]) (by simp [results, Tryd.results35, go_sem, ka5, kb5, kc5, kd5, ke5, kf5, kg5]) rfl ⟨by rw [Hr.out, Nat.add_comm n 2]; rfl, t5.set7 _ _ _ _ _ _ _⟩
  · rw [if_neg hH] at hone
    obtain ⟨o, ho⟩ : ∃ o, numGo 10 (digP 10) (s.data.toList.drop at_) 0 0 = o := ⟨_, rfl⟩
    have Hnum := Lib.hid (fun w => num_known2 s hs at_ (by omega) 10 (.inl rfl) o ho w)
    have hnd := num_dig 10 (s.data.toList.drop at_)
    rw [ho, show digP 10 = digN from rfl] at hnd
    rw [← Nat.zero_add (spanB digN (s.data.toList.drop at_)), fdR_num _ 0 o _ (by rw [Nat.zero_add]; exact hnd)] at hone
    have hguard : ((s[at_].toNat : Int) == 48) = false ∨ (((s[at_].toNat : Int) == 48) = true ∧ decide ((at_ : Int) + 2 < (s.size : Int)) = false) ∨ (∃ g : at_ + 2 < s.size, ((s[at_].toNat : Int) == 48) = true ∧ decide ((at_ : Int) + 2 < (s.size : Int)) = true ∧ ((s[at_ + 1].toNat : Int) == 120) = false) ∨ (∃ g : at_ + 2 < s.size, ((s[at_].toNat : Int) == 48) = true ∧ decide ((at_ : Int) + 2 < (s.size : Int)) = true ∧ ((s[at_ + 1].toNat : Int) == 120) = true ∧ hexI s[at_ + 2].toNat = -1) := by
      by_cases q1 : s[at_] = 48
      · have e1 := (byte_num s[at_] 48 (by omega)).1 q1
        by_cases q2 : at_ + 2 < s.size
        · have e2 : decide ((at_ : Int) + 2 < (s.size : Int)) = true := by simp; omega
          by_cases q3 : s[at_ + 1] = 120
          · refine .inr (.inr (.inr ⟨q2, e1, e2, (byte_num _ 120 (by omega)).1 q3, ?_⟩))
            have hd1 := drop_cons s (at_ + 1) (by omega)
            have hd2 := drop_cons s (at_ + 2) q2
            have hx : hexN s[at_ + 2].toNat = false := by
              cases g : hexN s[at_ + 2].toNat with
              | false => rfl
              | true =>
                refine absurd ⟨?_, ?_⟩ hH
                · rw [hd, hd1, q1, q3]; rfl
                · rw [hd2]; exact spanP_pos _ _ _ g
            have hk : ∀ n, n < 256 → hexN n = false → hexI n = -1 := by decide +kernel
            exact hk _ (UInt8.toNat_lt _) hx
          · exact .inr (.inr (.inl ⟨q2, e1, e2, (byte_num _ 120 (by omega)).2 q3⟩))
        · exact .inr (.inl ⟨e1, by simp; omega⟩)
      · exact .inl ((byte_num s[at_] 48 (by omega)).2 q1)
    clear hd hH ho hnd h
    cases o with
    | none =>
      rw [numV_no] at Hnum
      have Hr := Lib.hid hone
      clear hone
      rcases hguard with e1 | ⟨e1, e2⟩ | ⟨g, e1, e2, e3⟩ | ⟨g, e1, e2, e3, e4⟩
      · go_enter Tryd.func35, Tryd.ntmps35
        go_wp2_with (first | (go_at_call 54; refine (Hsm.out _).mono ?_; rintro e w1 ⟨rfl, b1⟩; have t1 : TokB w w1 := TokB.next (by first | assumption | exact TokB.start w) b1; clear b1; obtain ⟨⟨ka1, kb1, kc1, kd1, ke1, kf1, kg1⟩, fa1, fb1, fc1, fd1, fe1, ff1, fg1⟩ := t1.cells) | (go_at_call 56; refine (Hcp.out _).mono ?_; rintro e w2 ⟨rfl, b2⟩; have t2 : TokB w w2 := TokB.next (by first | assumption | exact TokB.start w) b2; clear b2; obtain ⟨⟨ka2, kb2, kc2, kd2, ke2, kf2, kg2⟩, fa2, fb2, fc2, fd2, fe2, ff2, fg2⟩ := t2.cells) | (go_at_call 57; refine (Hdg.out _).mono ?_; rintro e w3 ⟨rfl, b3⟩; have t3 : TokB w w3 := TokB.next (by first | assumption | exact TokB.start w) b3; clear b3; obtain ⟨⟨ka3, kb3, kc3, kd3, ke3, kf3, kg3⟩, fa3, fb3, fc3, fd3, fe3, ff3, fg3⟩ := t3.cells) | (go_at_call 59; refine (Hnum.out _).mono ?_; rintro e w5 ⟨rfl, b5⟩; have t5 : TokB w w5 := TokB.next (by first | assumption | exact TokB.start w) b5; clear b5; obtain ⟨⟨ka5, kb5, kc5, kd5, ke5, kf5, kg5⟩, fa5, fb5, fc5, fd5, fe5, ff5, fg5⟩ := t5.cells))
        exact bodyPost_ret (v := .tuple #[.agg #[.int .i64 0, .string ⟨#[]⟩, .int .i64 0, .int .i64 0, .int .i64 0, .int .i64 0, .bool false], .int .i64 0]) (by simp [results, Tryd.results35, go_sem, ka5, kb5, kc5, kd5, ke5, kf5, kg5]) rfl ⟨by rw [Hr.out]; rfl, t5.set7 _ _ _ _ _ _ _⟩
      · go_enter Tryd.func35, Tryd.ntmps35
        go_wp2_with (first | (go_at_call 54; refine (Hsm.out _).mono ?_; rintro e w1 ⟨rfl, b1⟩; have t1 : TokB w w1 := TokB.next (by first | assumption | exact TokB.start w) b1; clear b1; obtain ⟨⟨ka1, kb1, kc1, kd1, ke1, kf1, kg1⟩, fa1, fb1, fc1, fd1, fe1, ff1, fg1⟩ := t1.cells) | (go_at_call 56; refine (Hcp.out _).mono ?_; rintro e w2 ⟨rfl, b2⟩; have t2 : TokB w w2 := TokB.next (by first | assumption | exact TokB.start w) b2; clear b2; obtain ⟨⟨ka2, kb2, kc2, kd2, ke2, kf2, kg2⟩, fa2, fb2, fc2, fd2, fe2, ff2, fg2⟩ := t2.cells) | (go_at_call 57; refine (Hdg.out _).mono ?_; rintro e w3 ⟨rfl, b3⟩; have t3 : TokB w w3 := TokB.next (by first | assumption | exact TokB.start w) b3; clear b3; obtain ⟨⟨ka3, kb3, kc3, kd3, ke3, kf3, kg3⟩, fa3, fb3, fc3, fd3, fe3, ff3, fg3⟩ := t3.cells) | (go_at_call 59; refine (Hnum.out _).mono ?_; rintro e w5 ⟨rfl, b5⟩; have t5 : TokB w w5 := TokB.next (by first | assumption | exact TokB.start w) b5; clear b5; obtain ⟨⟨ka5, kb5, kc5, kd5, ke5, kf5, kg5⟩, fa5, fb5, fc5, fd5, fe5, ff5, fg5⟩ := t5.cells))
        exact bodyPost_ret (v := .tuple #[.agg #[.int .i64 0, .string ⟨#[]⟩, .int .i64 0, .int .i64 0, .int .i64 0, .int .i64 0, .bool false], .int .i64 0]) (by simp [results, Tryd.results35, go_sem, ka5, kb5, kc5, kd5, ke5, kf5, kg5]) rfl ⟨by rw [Hr.out]; rfl, t5.set7 _ _ _ _ _ _ _⟩
      · go_enter Tryd.func35, Tryd.ntmps35
        go_wp2_with (first | (go_at_call 54; refine (Hsm.out _).mono ?_; rintro e w1 ⟨rfl, b1⟩; have t1 : TokB w w1 := TokB.next (by first | assumption | exact TokB.start w) b1; clear b1; obtain ⟨⟨ka1, kb1, kc1, kd1, ke1, kf1, kg1⟩, fa1, fb1, fc1, fd1, fe1, ff1, fg1⟩ := t1.cells) | (go_at_call 56; refine (Hcp.out _).mono ?_; rintro e w2 ⟨rfl, b2⟩; have t2 : TokB w w2 := TokB.next (by first | assumption | exact TokB.start w) b2; clear b2; obtain ⟨⟨ka2, kb2, kc2, kd2, ke2, kf2, kg2⟩, fa2, fb2, fc2, fd2, fe2, ff2, fg2⟩ := t2.cells) | (go_at_call 57; refine (Hdg.out _).mono ?_; rintro e w3 ⟨rfl, b3⟩; have t3 : TokB w w3 := TokB.next (by first | assumption | exact TokB.start w) b3; clear b3; obtain ⟨⟨ka3, kb3, kc3, kd3, ke3, kf3, kg3⟩, fa3, fb3, fc3, fd3, fe3, ff3, fg3⟩ := t3.cells) | (go_at_call 59; refine (Hnum.out _).mono ?_; rintro e w5 ⟨rfl, b5⟩; have t5 : TokB w w5 := TokB.next (by first | assumption | exact TokB.start w) b5; clear b5; obtain ⟨⟨ka5, kb5, kc5, kd5, ke5, kf5, kg5⟩, fa5, fb5, fc5, fd5, fe5, ff5, fg5⟩ := t5.cells))
        exact bodyPost_ret (v := .tuple #[.agg #[.int .i64 0, .string ⟨#[]⟩, .int .i64 0, .int .i64 0, .int .i64 0, .int .i64 0, .bool false], .int .i64 0]) (by simp [results, Tryd.results35, go_sem, ka5, kb5, kc5, kd5, ke5, kf5, kg5]) rfl ⟨by rw [Hr.out]; rfl, t5.set7 _ _ _ _ _ _ _⟩
      · have Hhx := Lib.hid (fun w => hex_known s[at_ + 2] (-1) e4 w)
        clear e4
        go_enter Tryd.func35, Tryd.ntmps35
        go_wp2_with (first | (go_at_call 54; refine (Hsm.out _).mono ?_; rintro e w1 ⟨rfl, b1⟩; have t1 : TokB w w1 := TokB.next (by first | assumption | exact TokB.start w) b1; clear b1; obtain ⟨⟨ka1, kb1, kc1, kd1, ke1, kf1, kg1⟩, fa1, fb1, fc1, fd1, fe1, ff1, fg1⟩ := t1.cells) | (go_at_call 56; refine (Hcp.out _).mono ?_; rintro e w2 ⟨rfl, b2⟩; have t2 : TokB w w2 := TokB.next (by first | assumption | exact TokB.start w) b2; clear b2; obtain ⟨⟨ka2, kb2, kc2, kd2, ke2, kf2, kg2⟩, fa2, fb2, fc2, fd2, fe2, ff2, fg2⟩ := t2.cells) | (go_at_call 57; refine (Hdg.out _).mono ?_; rintro e w3 ⟨rfl, b3⟩; have t3 : TokB w w3 := TokB.next (by first | assumption | exact TokB.start w) b3; clear b3; obtain ⟨⟨ka3, kb3, kc3, kd3, ke3, kf3, kg3⟩, fa3, fb3, fc3, fd3, fe3, ff3, fg3⟩ := t3.cells) | (go_at_call 58; refine (Hhx.out _).mono ?_; rintro e w4 ⟨rfl, b4⟩; have t4 : TokB w w4 := TokB.next (by first | assumption | exact TokB.start w) b4; clear b4; obtain ⟨⟨ka4, kb4, kc4, kd4, ke4, kf4, kg4⟩, fa4, fb4, fc4, fd4, fe4, ff4, fg4⟩ := t4.cells) | (go_at_call 59; refine (Hnum.out _).mono ?_; rintro e w5 ⟨rfl, b5⟩; have t5 : TokB w w5 := TokB.next (by first | assumption | exact TokB.start w) b5; clear b5; obtain ⟨⟨ka5, kb5, kc5, kd5, ke5, kf5, kg5⟩, fa5, fb5, fc5, fd5, fe5, ff5, fg5⟩ := t5.cells))
        exact bodyPost_ret (v := .tuple #[.agg #[.int .i64 0, .string ⟨#[]⟩, .int .i64 0, .int .i64 0, .int .i64 0, .int .i64 0, .bool false], .int .i64 0]) (by simp [results, Tryd.results35, go_sem, ka5, kb5, kc5, kd5, ke5, kf5, kg5]) rfl ⟨by rw [Hr.out]; rfl, t5.set7 _ _ _ _ _ _ _⟩
    | some q =>
      obtain ⟨x, n⟩ := q
      rw [numV_yes] at Hnum
      have Hr := Lib.hid hone
      clear hone
      rcases hguard with e1 | ⟨e1, e2⟩ | ⟨g, e1, e2, e3⟩ | ⟨g, e1, e2, e3, e4⟩
      · go_enter Tryd.func35, Tryd.ntmps35
        go_wp2_with (first | (go_at_call 54; refine (Hsm.out _).mono ?_; rintro e w1 ⟨rfl, b1⟩; have t1 : TokB w w1 := TokB.next (by first | assumption | exact TokB.start w) b1; clear b1; obtain ⟨⟨ka1, kb1, kc1, kd1, ke1, kf1, kg1⟩, fa1, fb1, fc1, fd1, fe1, ff1, fg1⟩ := t1.cells) | (go_at_call 56; refine (Hcp.out _).mono ?_; rintro e w2 ⟨rfl, b2⟩; have t2 : TokB w w2 := TokB.next (by first | assumption | exact TokB.start w) b2; clear b2; obtain ⟨⟨ka2, kb2, kc2, kd2, ke2, kf2, kg2⟩, fa2, fb2, fc2, fd2, fe2, ff2, fg2⟩ := t2.cells) | (go_at_call 57; refine (Hdg.out _).mono ?_; rintro e w3 ⟨rfl, b3⟩; have t3 : TokB w w3 := TokB.next (by first | assumption | exact TokB.start w) b3; clear b3; obtain ⟨⟨ka3, kb3, kc3, kd3, ke3, kf3, kg3⟩, fa3, fb3, fc3, fd3, fe3, ff3, fg3⟩ := t3.cells) | (go_at_call 59; refine (Hnum.out _).mono ?_; rintro e w5 ⟨rfl, b5⟩; have t5 : TokB w w5 := TokB.next (by first | assumption | exact TokB.start w) b5; clear b5; obtain ⟨⟨ka5, kb5, kc5, kd5, ke5, kf5, kg5⟩, fa5, fb5, fc5, fd5, fe5, ff5, fg5⟩ := t5.cells))
        exact bodyPost_ret (v := .tuple #[.agg #[.int .i64 5, .string ⟨#[]⟩, .int .i64 x, .int .i64 0, .int .i64 0, .int .i64 0, .bool false], .int .i64 n]) (by simp [results, Tryd.results35, go_sem, ka5, kb5, kc5, kd5, ke5, kf5, kg5]) rfl ⟨by rw [Hr.out]; simp only [numR, Nat.zero_add], t5.set7 _ _ _ _ _ _ _⟩
      · go_enter Tryd.func35, Tryd.ntmps35
        go_wp2_with (first | (go_at_call 54; refine (Hsm.out _).mono ?_; rintro e w1 ⟨rfl, b1⟩; have t1 : TokB w w1 := TokB.next (by first | assumption | exact TokB.start w) b1; clear b1; obtain ⟨⟨ka1, kb1, kc1, kd1, ke1, kf1, kg1⟩, fa1, fb1, fc1, fd1, fe1, ff1, fg1⟩ := t1.cells) | (go_at_call 56; refine (Hcp.out _).mono ?_; rintro e w2 ⟨rfl, b2⟩; have t2 : TokB w w2 := TokB.next (by first | assumption | exact TokB.start w) b2; clear b2; obtain ⟨⟨ka2, kb2, kc2, kd2, ke2, kf2, kg2⟩, fa2, fb2, fc2, fd2, fe2, ff2, fg2⟩ := t2.cells) | (go_at_call 57; refine (Hdg.out _).mono ?_; rintro e w3 ⟨rfl, b3⟩; have t3 : TokB w w3 := TokB.next (by first | assumption | exact TokB.start w) b3; clear b3; obtain ⟨⟨ka3, kb3, kc3, kd3, ke3, kf3, kg3⟩, fa3, fb3, fc3, fd3, fe3, ff3, fg3⟩ := t3.cells) | (go_at_call 59; refine (Hnum.out _).mono ?_; rintro e w5 ⟨rfl, b5⟩; have t5 : TokB w w5 := TokB.next (by first | assumption | exact TokB.start w) b5; clear b5; obtain ⟨⟨ka5, kb5, kc5, kd5, ke5, kf5, kg5⟩, fa5, fb5, fc5, fd5, fe5, ff5, fg5⟩ := t5.cells))
        exact bodyPost_ret (v := .tuple #[.agg #[.int .i64 5, .string ⟨#[]⟩, .int .i64 x, .int .i64 0, .int .i64 0, .int .i64 0, .bool false], .int .i64 n]) (by simp [results, Tryd.results35, go_sem, ka5, kb5, kc5, kd5, ke5, kf5, kg5]) rfl ⟨by rw [Hr.out]; simp only [numR, Nat.zero_add], t5.set7 _ _ _ _ _ _ _⟩
      · go_enter Tryd.func35, Tryd.ntmps35
        go_wp2_with (first | (go_at_call 54; refine (Hsm.out _).mono ?_; rintro e w1 ⟨rfl, b1⟩; have t1 : TokB w w1 := TokB.next (by first | assumption | exact TokB.start w) b1; clear b1; obtain ⟨⟨ka1, kb1, kc1, kd1, ke1, kf1, kg1⟩, fa1, fb1, fc1, fd1, fe1, ff1, fg1⟩ := t1.cells) | (go_at_call 56; refine (Hcp.out _).mono ?_; rintro e w2 ⟨rfl, b2⟩; have t2 : TokB w w2 := TokB.next (by first | assumption | exact TokB.start w) b2; clear b2; obtain ⟨⟨ka2, kb2, kc2, kd2, ke2, kf2, kg2⟩, fa2, fb2, fc2, fd2, fe2, ff2, fg2⟩ := t2.cells) | (go_at_call 57; refine (Hdg.out _).mono ?_; rintro e w3 ⟨rfl, b3⟩; have t3 : TokB w w3 := TokB.next (by first | assumption | exact TokB.start w) b3; clear b3; obtain ⟨⟨ka3, kb3, kc3, kd3, ke3, kf3, kg3⟩, fa3, fb3, fc3, fd3, fe3, ff3, fg3⟩ := t3.cells) | (go_at_call 59; refine (Hnum.out _).mono ?_; rintro e w5 ⟨rfl, b5⟩; have t5 : TokB w w5 := TokB.next (by first | assumption | exact TokB.start w) b5; clear b5; obtain ⟨⟨ka5, kb5, kc5, kd5, ke5, kf5, kg5⟩, fa5, fb5, fc5, fd5, fe5, ff5, fg5⟩ := t5.cells))
        exact bodyPost_ret (v := .tuple #[.agg #[.int .i64 5, .string ⟨#[]⟩, .int .i64 x, .int .i64 0, .int .i64 0, .int .i64 0, .bool false], .int .i64 n]) (by simp [results, Tryd.results35, go_sem, ka5, kb5, kc5, kd5, ke5, kf5, kg5]) rfl ⟨by rw [Hr.out]; simp only [numR, Nat.zero_add], t5.set7 _ _ _ _ _ _ _⟩
      · have Hhx := Lib.hid (fun w => hex_known s[at_ + 2] (-1) e4 w)
        clear e4
        go_enter Tryd.func35, Tryd.ntmps35
        go_wp2_with (first | (go_at_call 54; refine (Hsm.out _).mono ?_; rintro e w1 ⟨rfl, b1⟩; have t1 : TokB w w1 := TokB.next (by first | assumption | exact TokB.start w) b1; clear b1; obtain ⟨⟨ka1, kb1, kc1, kd1, ke1, kf1, kg1⟩, fa1, fb1, fc1, fd1, fe1, ff1, fg1⟩ := t1.cells) | (go_at_call 56; refine (Hcp.out _).mono ?_; rintro e w2 ⟨rfl, b2⟩; have t2 : TokB w w2 := TokB.next (by first | assumption | exact TokB.start w) b2; clear b2; obtain ⟨⟨ka2, kb2, kc2, kd2, ke2, kf2, kg2⟩, fa2, fb2, fc2, fd2, fe2, ff2, fg2⟩ := t2.cells) | (go_at_call 57; refine (Hdg.out _).mono ?_; rintro e w3 ⟨rfl, b3⟩; have t3 : TokB w w3 := TokB.next (by first | assumption | exact TokB.start w) b3; clear b3; obtain ⟨⟨ka3, kb3, kc3, kd3, ke3, kf3, kg3⟩, fa3, fb3, fc3, fd3, fe3, ff3, fg3⟩ := t3.cells) | (go_at_call 58; refine (Hhx.out _).mono ?_; rintro e w4 ⟨rfl, b4⟩; have t4 : TokB w w4 := TokB.next (by first | assumption | exact TokB.start w) b4; clear b4; obtain ⟨⟨ka4, kb4, kc4, kd4, ke4, kf4, kg4⟩, fa4, fb4, fc4, fd4, fe4, ff4, fg4⟩ := t4.cells) | (go_at_call 59; refine (Hnum.out _).mono ?_; rintro e w5 ⟨rfl, b5⟩; have t5 : TokB w w5 := TokB.next (by first | assumption | exact TokB.start w) b5; clear b5; obtain ⟨⟨ka5, kb5, kc5, kd5, ke5, kf5, kg5⟩, fa5, fb5, fc5, fd5, fe5, ff5, fg5⟩ := t5.cells))
        exact bodyPost_ret (v := .tuple #[.agg #[.int .i64 5, .string ⟨#[]⟩, .int .i64 x, .int .i64 0, .int .i64 0, .int .i64 0, .bool false], .int .i64 n]) (by simp [results, Tryd.results35, go_sem, ka5, kb5, kc5, kd5, ke5, kf5, kg5]) rfl ⟨by rw [Hr.out]; simp only [numR, Nat.zero_add], t5.set7 _ _ _ _ _ _ _⟩
end Go.Proofs.YtiflklmjmdhfoaaDoor
