/- The document's lexer: the lexeme at a place: quotes, symbols, marks; all. The document's lexer: the lexeme at a place: marks; all of them. -/
import Derived.Test.YtiflklmjmdhfoaaDoorLrG
namespace Go.Proofs.YtiflklmjmdhfoaaDoor
open Go.RowKit Go.Shelf
set_option linter.unusedSimpArgs false
set_option linter.unusedVariables false

theorem fdR_shape (f : Fd) : ∃ (k x : Int) (u : ByteArray) (n : Int), fdR f = .tuple #[.agg #[.int .i64 k, .string u, .int .i64 x, .int .i64 0, .int .i64 0, .int .i64 0, .bool false], .int .i64 n] := by
  cases f with
  | no => exact ⟨0, 0, ⟨#[]⟩, 0, rfl⟩
  | bad => exact ⟨0, 0, ⟨#[]⟩, 0, rfl⟩
  | tok t n => exact ⟨t.kind, t.num, ⟨t.text.toArray⟩, n, rfl⟩
set_option maxRecDepth 100000 in
set_option maxHeartbeats 8000000 in
theorem rlex_quote (s : ByteArray) (hs : s.size ≤ 100000) (at_ : Nat) (ha : at_ < s.size) (h : s[at_].toNat = 39 ∨ s[at_].toNat = 34) (w : World) :
    Calls Tryd.prog 35 #[.string s, .int .i64 at_] w fun e w' => e = .returned (fdR (oneK (s.data.toList.drop at_))) ∧ Below w.heap.size w w' := by
  have hk : ∀ n, n < 256 → n = 39 ∨ n = 34 → smallN n = false ∧ capN n = false ∧ digN n = false := by decide +kernel
  obtain ⟨h0, h1, h2⟩ := hk _ (UInt8.toNat_lt _) h
  have Hsm := Lib.hid (fun w => bool_known rsmall_any s[at_] false h0 w)
  have Hcp := Lib.hid (fun w => bool_known rcapital_any s[at_] false h1 w)
  have Hdg := Lib.hid (fun w => bool_known rdigit_any s[at_] false h2 w)
  have Hq := fun w => quoted2_char s hs at_ ha h w
  obtain ⟨k, x, u, n, hv⟩ := fdR_shape (oneK (s.data.toList.drop at_))
  rw [hv] at Hq ⊢
  have Hq := Lib.hid Hq
  have hc : ((s[at_].toNat : Int) == 39) = true ∨ (((s[at_].toNat : Int) == 39) = false ∧ ((s[at_].toNat : Int) == 34) = true) := by
    rcases h with h | h
    · exact .inl (by rw [h]; rfl)
    · exact .inr (by rw [h]; exact ⟨rfl, rfl⟩)
  clear h h0 h1 h2 hv
  rcases hc with e1 | ⟨e1, e2⟩
  all_goals
    go_enter Tryd.func35, Tryd.ntmps35
    go_wp2_with (first | (go_at_call 54; refine (Hsm.out _).mono ?_; rintro e w1 ⟨rfl, b1⟩; have t1 : TokB w w1 := TokB.next (by first | assumption | exact TokB.start w) b1; clear b1; obtain ⟨⟨ka1, kb1, kc1, kd1, ke1, kf1, kg1⟩, fa1, fb1, fc1, fd1, fe1, ff1, fg1⟩ := t1.cells) | (go_at_call 56; refine (Hcp.out _).mono ?_; rintro e w2 ⟨rfl, b2⟩; have t2 : TokB w w2 := TokB.next (by first | assumption | exact TokB.start w) b2; clear b2; obtain ⟨⟨ka2, kb2, kc2, kd2, ke2, kf2, kg2⟩, fa2, fb2, fc2, fd2, fe2, ff2, fg2⟩ := t2.cells) | (go_at_call 57; refine (Hdg.out _).mono ?_; rintro e w3 ⟨rfl, b3⟩; have t3 : TokB w w3 := TokB.next (by first | assumption | exact TokB.start w) b3; clear b3; obtain ⟨⟨ka3, kb3, kc3, kd3, ke3, kf3, kg3⟩, fa3, fb3, fc3, fd3, fe3, ff3, fg3⟩ := t3.cells) | (go_at_call 60; refine (Hq.out _).mono ?_; rintro e w4 ⟨rfl, b4⟩; have t4 : TokB w w4 := TokB.next (by first | assumption | exact TokB.start w) b4; clear b4; obtain ⟨⟨ka4, kb4, kc4, kd4, ke4, kf4, kg4⟩, fa4, fb4, fc4, fd4, fe4, ff4, fg4⟩ := t4.cells))
    exact bodyPost_ret (v := .tuple #[.agg #[.int .i64 k, .string u, .int .i64 x, .int .i64 0, .int .i64 0, .int .i64 0, .bool false], .int .i64 n]) (by simp [results, Tryd.results35, go_sem, ka4, kb4, kc4, kd4, ke4, kf4, kg4]) rfl ⟨rfl, t4.set7 _ _ _ _ _ _ _⟩

theorem sign_58 (l : List UInt8) (a : UInt8) (r : List UInt8) (h : l = a :: r) (ha : a.toNat = 58) : l ∉ signsL := by
  intro hm
  have hk : ∀ x ∈ signsL, ∀ b r, x = b :: r → b.toNat ≠ 58 := by
    intro x hx b r e
    simp only [signsL, List.mem_cons, List.not_mem_nil, or_false] at hx
    rcases hx with rfl | rfl | rfl | rfl | rfl | rfl | rfl | rfl <;> (cases e; decide)
  exact hk l hm a r h ha

set_option maxRecDepth 100000 in
set_option maxHeartbeats 8000000 in
theorem rlex_sym (s : ByteArray) (hs : s.size ≤ 100000) (at_ : Nat) (ha : at_ < s.size) (h : symN s[at_].toNat = true) (w : World) :
    Calls Tryd.prog 35 #[.string s, .int .i64 at_] w fun e w' => e = .returned (fdR (oneK (s.data.toList.drop at_))) ∧ Below w.heap.size w w' := by
  have hsl : s.data.toList.length = s.size := rfl
  have hd := drop_cons s at_ ha
  have hk : ∀ n, n < 256 → symN n = true → (smallN n = false ∧ capN n = false ∧ digN n = false) ∧ n ≠ 39 ∧ n ≠ 34 := by decide +kernel
  obtain ⟨⟨h0, h1, h2⟩, h3, h4⟩ := hk _ (UInt8.toNat_lt _) h
  have Hsm := Lib.hid (fun w => bool_known rsmall_any s[at_] false h0 w)
  have Hcp := Lib.hid (fun w => bool_known rcapital_any s[at_] false h1 w)
  have Hdg := Lib.hid (fun w => bool_known rdigit_any s[at_] false h2 w)
  have Hsy := Lib.hid (fun w => bool_known rsymbol_any s[at_] true h w)
  have e1 : ((s[at_].toNat : Int) == 39) = false := by rw [beq_eq_false_iff_ne]; omega
  have e2 : ((s[at_].toNat : Int) == 34) = false := by rw [beq_eq_false_iff_ne]; omega
  obtain ⟨n, hn⟩ : ∃ n, spanB symN (s.data.toList.drop at_) = n := ⟨_, rfl⟩
  have hnl : at_ + n ≤ s.size := by have := spanB_le symN (s.data.toList.drop at_); rw [List.length_drop, hsl, hn] at this; omega
  have hz : 0 < n := by rw [← hn, hd]; exact spanP_pos _ _ _ h
  obtain ⟨u, hu⟩ : ∃ u, s.extract at_ (at_ + n) = u := ⟨_, rfl⟩
  have hud : u.data.toList = (s.data.toList.drop at_).take n := by rw [← hu, ext_data, Nat.add_sub_cancel_left]
  have huz : u.size = n := by show u.data.toList.length = n; rw [hud, List.length_take, List.length_drop, hsl]; omega
  have hone : oneK (s.data.toList.drop at_) = .tok ⟨if s[at_].toNat = 58 then 4 else if u.data.toList ∈ signsL then 10 else 3, u.data.toList, 0⟩ n := by
    rw [hud, ← hn, hd]
    unfold oneK
    rw [or_no (by simp [nameK, h0]), or_no (by simp [conK, h1])]
    simp only [symbolK]
    rw [if_neg (by have := spanP_pos symN s[at_] (s.data.toList.drop (at_ + 1)) h; omega)]
    rfl
  have Hs := Lib.hid (fun w => symbols_known s hs at_ (by omega) n hn w)
  obtain ⟨R, hR⟩ : ∃ R, oneK (s.data.toList.drop at_) = R := ⟨_, rfl⟩
  rw [hR] at hone ⊢
  have hcons : u.data.toList = s[at_] :: (s.data.toList.drop (at_ + 1)).take (n - 1) := by
    rw [hud, hd]; exact take_cons_pos _ _ _ hz
  have hsort : (∃ k : Nat, k = 10 ∧ R = .tok ⟨k, u.data.toList, 0⟩ n ∧ u.data.toList ∈ signsL) ∨ (R = .tok ⟨4, u.data.toList, 0⟩ n ∧ u.data.toList ∉ signsL ∧ ((s[at_].toNat : Int) == 58) = true) ∨ (R = .tok ⟨3, u.data.toList, 0⟩ n ∧ u.data.toList ∉ signsL ∧ ((s[at_].toNat : Int) == 58) = false) := by
    by_cases c : s[at_].toNat = 58
    · exact .inr (.inl ⟨by rw [hone, if_pos c], sign_58 _ _ _ hcons c, by rw [c]; rfl⟩)
    · by_cases g : u.data.toList ∈ signsL
      · exact .inl ⟨10, rfl, by rw [hone, if_neg c, if_pos g], g⟩
      · exact .inr (.inr ⟨by rw [hone, if_neg c, if_neg g], g, by rw [beq_eq_false_iff_ne]; omega⟩)
  clear hone hR hud hd h h0 h1 h2 h3 h4 hn hcons
  rcases hsort with ⟨k, rfl, hr, hm⟩ | ⟨hr, hm, e3⟩ | ⟨hr, hm, e3⟩
  · have HW := Lib.hid (fun w => rSign_known u true (decide_eq_true hm) w)
    have Hr := Lib.hid hr
    clear hr hm
    go_enter Tryd.func35, Tryd.ntmps35
    go_wp2_with (first | (go_at_call 54; refine (Hsm.out _).mono ?_; rintro e w1 ⟨rfl, b1⟩; have t1 : TokB w w1 := TokB.next (by first | assumption | exact TokB.start w) b1; clear b1; obtain ⟨⟨ka1, kb1, kc1, kd1, ke1, kf1, kg1⟩, fa1, fb1, fc1, fd1, fe1, ff1, fg1⟩ := t1.cells) | (go_at_call 56; refine (Hcp.out _).mono ?_; rintro e w6 ⟨rfl, b6⟩; have t6 : TokB w w6 := TokB.next (by first | assumption | exact TokB.start w) b6; clear b6; obtain ⟨⟨ka6, kb6, kc6, kd6, ke6, kf6, kg6⟩, fa6, fb6, fc6, fd6, fe6, ff6, fg6⟩ := t6.cells) | (go_at_call 57; refine (Hdg.out _).mono ?_; rintro e w7 ⟨rfl, b7⟩; have t7 : TokB w w7 := TokB.next (by first | assumption | exact TokB.start w) b7; clear b7; obtain ⟨⟨ka7, kb7, kc7, kd7, ke7, kf7, kg7⟩, fa7, fb7, fc7, fd7, fe7, ff7, fg7⟩ := t7.cells) | (go_at_call 26; refine (Hsy.out _).mono ?_; rintro e w8 ⟨rfl, b8⟩; have t8 : TokB w w8 := TokB.next (by first | assumption | exact TokB.start w) b8; clear b8; obtain ⟨⟨ka8, kb8, kc8, kd8, ke8, kf8, kg8⟩, fa8, fb8, fc8, fd8, fe8, ff8, fg8⟩ := t8.cells) | ((go_at_call 53; refine (Hs.out _).mono ?_; rintro e w2 ⟨rfl, b2⟩; have t2 : TokB w w2 := TokB.next (by first | assumption | exact TokB.start w) b2; clear b2; obtain ⟨⟨ka2, kb2, kc2, kd2, ke2, kf2, kg2⟩, fa2, fb2, fc2, fd2, fe2, ff2, fg2⟩ := t2.cells); have lt2 := t2.size) | (go_at_call 24; refine (HW.out _).mono ?_; rintro e w3 ⟨rfl, b3⟩; have BT := (Blk.new w2 #[.int .i64 3, .string u, .int .i64 0, .int .i64 0, .int .i64 0, .int .i64 0, .bool false] 30).below b3 (by simp); have q0 := BT.cell 0; have q1 := BT.cell 1; have q2 := BT.cell 2; have q3 := BT.cell 3; have q4 := BT.cell 4; have q5 := BT.cell 5; have q6 := BT.cell 6; have qf := BT.free 0; simp only [List.getElem?_toArray, List.getElem?_cons_zero, List.getElem?_cons_succ] at q0 q1 q2 q3 q4 q5 q6; have t3 : TokB w w3 := TokB.next (TokB.next t2 ((Below.refl _ _).alloc (Nat.le_refl _) _)) b3; clear b3))
    have BT5 := BT.set 0 (.int .i64 10) (by simp)
    have t5 : TokB w (w3.setCell ⟨w2.heap.size, 0, none⟩ (.int .i64 10)) := Below.setCell t3 (p := ⟨w2.heap.size, 0, none⟩) lt2 _
    clear q0 q1 q2 q3 q4 q5 q6 qf t3 BT
    generalize w3.setCell ⟨w2.heap.size, 0, none⟩ (.int .i64 10) = W5 at BT5 t5 ⊢
    obtain ⟨⟨z0, z1, z2, z3, z4, z5, z6⟩, y0, y1, y2, y3, y4, y5, y6⟩ := t5.cells
    have q0 := BT5.cell 0
    have q1 := BT5.cell 1
    have q2 := BT5.cell 2
    have q3 := BT5.cell 3
    have q4 := BT5.cell 4
    have q5 := BT5.cell 5
    have q6 := BT5.cell 6
    simp at q0 q1 q2 q3 q4 q5 q6
    have hne : ¬ w2.heap.size = w.heap.size := by simp at lt2; omega
    have hne' : ¬ w.heap.size = w2.heap.size := by omega
    clear t1 t2 t6 t7 t8 BT5
    generalize w2.heap.size = tb at q0 q1 q2 q3 q4 q5 q6 hne hne' ⊢
    clear lt2
    go_region
    go_wp2
    exact bodyPost_ret (v := .tuple #[.agg #[.int .i64 10, .string u, .int .i64 0, .int .i64 0, .int .i64 0, .int .i64 0, .bool false], .int .i64 n]) (by simp [results, Tryd.results35, go_sem, z0, z1, z2, z3, z4, z5, z6]) rfl ⟨by rw [Hr.out]; rfl, (t5.set7 _ _ _ _ _ _ _).drew⟩
  · have HW := Lib.hid (fun w => rSign_known u false (decide_eq_false hm) w)
    have Hr := Lib.hid hr
    clear hr hm
    go_enter Tryd.func35, Tryd.ntmps35
    go_wp2_with (first | (go_at_call 54; refine (Hsm.out _).mono ?_; rintro e w1 ⟨rfl, b1⟩; have t1 : TokB w w1 := TokB.next (by first | assumption | exact TokB.start w) b1; clear b1; obtain ⟨⟨ka1, kb1, kc1, kd1, ke1, kf1, kg1⟩, fa1, fb1, fc1, fd1, fe1, ff1, fg1⟩ := t1.cells) | (go_at_call 56; refine (Hcp.out _).mono ?_; rintro e w6 ⟨rfl, b6⟩; have t6 : TokB w w6 := TokB.next (by first | assumption | exact TokB.start w) b6; clear b6; obtain ⟨⟨ka6, kb6, kc6, kd6, ke6, kf6, kg6⟩, fa6, fb6, fc6, fd6, fe6, ff6, fg6⟩ := t6.cells) | (go_at_call 57; refine (Hdg.out _).mono ?_; rintro e w7 ⟨rfl, b7⟩; have t7 : TokB w w7 := TokB.next (by first | assumption | exact TokB.start w) b7; clear b7; obtain ⟨⟨ka7, kb7, kc7, kd7, ke7, kf7, kg7⟩, fa7, fb7, fc7, fd7, fe7, ff7, fg7⟩ := t7.cells) | (go_at_call 26; refine (Hsy.out _).mono ?_; rintro e w8 ⟨rfl, b8⟩; have t8 : TokB w w8 := TokB.next (by first | assumption | exact TokB.start w) b8; clear b8; obtain ⟨⟨ka8, kb8, kc8, kd8, ke8, kf8, kg8⟩, fa8, fb8, fc8, fd8, fe8, ff8, fg8⟩ := t8.cells) | ((go_at_call 53; refine (Hs.out _).mono ?_; rintro e w2 ⟨rfl, b2⟩; have t2 : TokB w w2 := TokB.next (by first | assumption | exact TokB.start w) b2; clear b2; obtain ⟨⟨ka2, kb2, kc2, kd2, ke2, kf2, kg2⟩, fa2, fb2, fc2, fd2, fe2, ff2, fg2⟩ := t2.cells); have lt2 := t2.size) | (go_at_call 24; refine (HW.out _).mono ?_; rintro e w3 ⟨rfl, b3⟩; have BT := (Blk.new w2 #[.int .i64 3, .string u, .int .i64 0, .int .i64 0, .int .i64 0, .int .i64 0, .bool false] 30).below b3 (by simp); have q0 := BT.cell 0; have q1 := BT.cell 1; have q2 := BT.cell 2; have q3 := BT.cell 3; have q4 := BT.cell 4; have q5 := BT.cell 5; have q6 := BT.cell 6; have qf := BT.free 0; simp only [List.getElem?_toArray, List.getElem?_cons_zero, List.getElem?_cons_succ] at q0 q1 q2 q3 q4 q5 q6; have t3 : TokB w w3 := TokB.next (TokB.next t2 ((Below.refl _ _).alloc (Nat.le_refl _) _)) b3; clear b3))
    have BT5 := BT.set 0 (.int .i64 4) (by simp)
    have t5 : TokB w (w3.setCell ⟨w2.heap.size, 0, none⟩ (.int .i64 4)) := Below.setCell t3 (p := ⟨w2.heap.size, 0, none⟩) lt2 _
    clear q0 q1 q2 q3 q4 q5 q6 qf t3 BT
    generalize w3.setCell ⟨w2.heap.size, 0, none⟩ (.int .i64 4) = W5 at BT5 t5 ⊢
    obtain ⟨⟨z0, z1, z2, z3, z4, z5, z6⟩, y0, y1, y2, y3, y4, y5, y6⟩ := t5.cells
    have q0 := BT5.cell 0
    have q1 := BT5.cell 1
    have q2 := BT5.cell 2
    have q3 := BT5.cell 3
    have q4 := BT5.cell 4
    have q5 := BT5.cell 5
    have q6 := BT5.cell 6
    simp at q0 q1 q2 q3 q4 q5 q6
    have hne : ¬ w2.heap.size = w.heap.size := by simp at lt2; omega
    have hne' : ¬ w.heap.size = w2.heap.size := by omega
    clear t1 t2 t6 t7 t8 BT5
    generalize w2.heap.size = tb at q0 q1 q2 q3 q4 q5 q6 hne hne' ⊢
    clear lt2
    go_region
    go_wp2
    exact bodyPost_ret (v := .tuple #[.agg #[.int .i64 4, .string u, .int .i64 0, .int .i64 0, .int .i64 0, .int .i64 0, .bool false], .int .i64 n]) (by simp [results, Tryd.results35, go_sem, z0, z1, z2, z3, z4, z5, z6]) rfl ⟨by rw [Hr.out]; rfl, (t5.set7 _ _ _ _ _ _ _).drew⟩
  · have HW := Lib.hid (fun w => rSign_known u false (decide_eq_false hm) w)
    have Hr := Lib.hid hr
    clear hr hm
    go_enter Tryd.func35, Tryd.ntmps35
    go_wp2_with (first | (go_at_call 54; refine (Hsm.out _).mono ?_; rintro e w1 ⟨rfl, b1⟩; have t1 : TokB w w1 := TokB.next (by first | assumption | exact TokB.start w) b1; clear b1; obtain ⟨⟨ka1, kb1, kc1, kd1, ke1, kf1, kg1⟩, fa1, fb1, fc1, fd1, fe1, ff1, fg1⟩ := t1.cells) | (go_at_call 56; refine (Hcp.out _).mono ?_; rintro e w6 ⟨rfl, b6⟩; have t6 : TokB w w6 := TokB.next (by first | assumption | exact TokB.start w) b6; clear b6; obtain ⟨⟨ka6, kb6, kc6, kd6, ke6, kf6, kg6⟩, fa6, fb6, fc6, fd6, fe6, ff6, fg6⟩ := t6.cells) | (go_at_call 57; refine (Hdg.out _).mono ?_; rintro e w7 ⟨rfl, b7⟩; have t7 : TokB w w7 := TokB.next (by first | assumption | exact TokB.start w) b7; clear b7; obtain ⟨⟨ka7, kb7, kc7, kd7, ke7, kf7, kg7⟩, fa7, fb7, fc7, fd7, fe7, ff7, fg7⟩ := t7.cells) | (go_at_call 26; refine (Hsy.out _).mono ?_; rintro e w8 ⟨rfl, b8⟩; have t8 : TokB w w8 := TokB.next (by first | assumption | exact TokB.start w) b8; clear b8; obtain ⟨⟨ka8, kb8, kc8, kd8, ke8, kf8, kg8⟩, fa8, fb8, fc8, fd8, fe8, ff8, fg8⟩ := t8.cells) | ((go_at_call 53; refine (Hs.out _).mono ?_; rintro e w2 ⟨rfl, b2⟩; have t2 : TokB w w2 := TokB.next (by first | assumption | exact TokB.start w) b2; clear b2; obtain ⟨⟨ka2, kb2, kc2, kd2, ke2, kf2, kg2⟩, fa2, fb2, fc2, fd2, fe2, ff2, fg2⟩ := t2.cells); have lt2 := t2.size) | (go_at_call 24; refine (HW.out _).mono ?_; rintro e w3 ⟨rfl, b3⟩; have BT := (Blk.new w2 #[.int .i64 3, .string u, .int .i64 0, .int .i64 0, .int .i64 0, .int .i64 0, .bool false] 30).below b3 (by simp); have q0 := BT.cell 0; have q1 := BT.cell 1; have q2 := BT.cell 2; have q3 := BT.cell 3; have q4 := BT.cell 4; have q5 := BT.cell 5; have q6 := BT.cell 6; have qf := BT.free 0; simp only [List.getElem?_toArray, List.getElem?_cons_zero, List.getElem?_cons_succ] at q0 q1 q2 q3 q4 q5 q6; have t3 : TokB w w3 := TokB.next (TokB.next t2 ((Below.refl _ _).alloc (Nat.le_refl _) _)) b3; clear b3))
    have BT5 := BT
    have t5 := t3
    clear q0 q1 q2 q3 q4 q5 q6 qf t3 BT
    generalize w3 = W5 at BT5 t5 ⊢
    obtain ⟨⟨z0, z1, z2, z3, z4, z5, z6⟩, y0, y1, y2, y3, y4, y5, y6⟩ := t5.cells
    have q0 := BT5.cell 0
    have q1 := BT5.cell 1
    have q2 := BT5.cell 2
    have q3 := BT5.cell 3
    have q4 := BT5.cell 4
    have q5 := BT5.cell 5
    have q6 := BT5.cell 6
    simp at q0 q1 q2 q3 q4 q5 q6
    have hne : ¬ w2.heap.size = w.heap.size := by simp at lt2; omega
    have hne' : ¬ w.heap.size = w2.heap.size := by omega
    clear t1 t2 t6 t7 t8 BT5
    generalize w2.heap.size = tb at q0 q1 q2 q3 q4 q5 q6 hne hne' ⊢
    clear lt2
    go_region
    go_wp2
    exact bodyPost_ret (v := .tuple #[.agg #[.int .i64 3, .string u, .int .i64 0, .int .i64 0, .int .i64 0, .int .i64 0, .bool false], .int .i64 n]) (by simp [results, Tryd.results35, go_sem, z0, z1, z2, z3, z4, z5, z6]) rfl ⟨by rw [Hr.out]; rfl, (t5.set7 _ _ _ _ _ _ _).drew⟩
end Go.Proofs.YtiflklmjmdhfoaaDoor

namespace Go.Proofs.YtiflklmjmdhfoaaDoor
open Go.RowKit Go.Shelf
set_option linter.unusedSimpArgs false
set_option linter.unusedVariables false

def marksB : ByteArray := ⟨#[40, 41, 91, 93, 44, 59, 96, 123, 125]⟩
theorem mark_iff (c : UInt8) : (markN c.toNat = true → ∃ k, ∃ h : k < marksB.size, marksB[k] = c) ∧ (∀ k, ∀ h : k < marksB.size, marksB[k] = c → markN c.toNat = true) := by
  constructor
  · intro h
    have hk : ∀ n, n < 256 → markN n = true → n = 40 ∨ n = 41 ∨ n = 91 ∨ n = 93 ∨ n = 44 ∨ n = 59 ∨ n = 96 ∨ n = 123 ∨ n = 125 := by decide +kernel
    have e : ∀ m : Nat, m < 256 → c.toNat = m → UInt8.ofNat m = c := fun m hm he => UInt8.toNat_inj.1 (by rw [he]; simp; omega)
    rcases hk _ (UInt8.toNat_lt c) h with g | g | g | g | g | g | g | g | g
    · exact ⟨0, by decide, e 40 (by omega) g⟩
    · exact ⟨1, by decide, e 41 (by omega) g⟩
    · exact ⟨2, by decide, e 91 (by omega) g⟩
    · exact ⟨3, by decide, e 93 (by omega) g⟩
    · exact ⟨4, by decide, e 44 (by omega) g⟩
    · exact ⟨5, by decide, e 59 (by omega) g⟩
    · exact ⟨6, by decide, e 96 (by omega) g⟩
    · exact ⟨7, by decide, e 123 (by omega) g⟩
    · exact ⟨8, by decide, e 125 (by omega) g⟩
  · intro k h e
    have hk : ∀ k, ∀ h : k < marksB.size, markN marksB[k].toNat = true := by
      intro k h
      have h9 : k < 9 := h
      match k, h9 with
      | 0, _ => rfl
      | 1, _ => rfl
      | 2, _ => rfl
      | 3, _ => rfl
      | 4, _ => rfl
      | 5, _ => rfl
      | 6, _ => rfl
      | 7, _ => rfl
      | 8, _ => rfl
    rw [← e]; exact hk k h

set_option maxRecDepth 100000 in
set_option maxHeartbeats 8000000 in
theorem rlex_mark (s : ByteArray) (hs : s.size ≤ 100000) (at_ : Nat) (ha : at_ < s.size) (h0 : smallN s[at_].toNat = false) (h1 : capN s[at_].toNat = false) (h2 : digN s[at_].toNat = false) (h3 : ¬ (s[at_].toNat = 39 ∨ s[at_].toNat = 34)) (h : symN s[at_].toNat = false) (w : World) :
    Calls Tryd.prog 35 #[.string s, .int .i64 at_] w fun e w' => e = .returned (fdR (oneK (s.data.toList.drop at_))) ∧ Below w.heap.size w w' := by
  have hd := drop_cons s at_ ha
  have Hsm := Lib.hid (fun w => bool_known rsmall_any s[at_] false h0 w)
  have Hcp := Lib.hid (fun w => bool_known rcapital_any s[at_] false h1 w)
  have Hdg := Lib.hid (fun w => bool_known rdigit_any s[at_] false h2 w)
  have Hsy := Lib.hid (fun w => bool_known rsymbol_any s[at_] false h w)
  have e1 : ((s[at_].toNat : Int) == 39) = false := by rw [beq_eq_false_iff_ne]; omega
  have e2 : ((s[at_].toNat : Int) == 34) = false := by rw [beq_eq_false_iff_ne]; omega
  have hone : oneK (s.data.toList.drop at_) = markK (s[at_] :: s.data.toList.drop (at_ + 1)) := by
    rw [hd, pre_no _ _ h0 h1 h, or_no (by simp [numberK, h2]), or_no (by simp [charTK]; omega), or_no (by simp [textK]; omega)]
  obtain ⟨u, hu⟩ : ∃ u, s.extract at_ (at_ + 1) = u := ⟨_, rfl⟩
  have hud : u.data.toList = [s[at_]] := by rw [← hu, ext_data, Nat.add_sub_cancel_left, hd]; rfl
  obtain ⟨R, hR⟩ : ∃ R, oneK (s.data.toList.drop at_) = R := ⟨_, rfl⟩
  rw [hR] at hone ⊢
  obtain ⟨m1, m2⟩ := mark_iff s[at_]
  have Hyes := Lib.hid (show markN s[at_].toNat = true → R = .tok ⟨8, u.data.toList, 0⟩ 1 from fun g => by rw [hone, hud]; simp only [markK, g, if_true])
  have Hno := Lib.hid (show markN s[at_].toNat = false → R = .no from fun g => by rw [hone]; simp only [markK, g]; rfl)
  have M1 := Lib.hid m1
  have M2 := Lib.hid m2
  obtain ⟨c, hce⟩ : ∃ c, s[at_] = c := ⟨_, rfl⟩
  rw [hce] at Hsm Hcp Hdg Hsy e1 e2 Hyes Hno M1 M2
  clear hone hR hud hd h h0 h1 h2 h3 m1 m2
  go_enter Tryd.func35, Tryd.ntmps35
  go_wp2_with (first | (go_at_call 54; refine (Hsm.out _).mono ?_; rintro e w1 ⟨rfl, b1⟩; have t1 : TokB w w1 := TokB.next (by first | assumption | exact TokB.start w) b1; clear b1; obtain ⟨⟨ka1, kb1, kc1, kd1, ke1, kf1, kg1⟩, fa1, fb1, fc1, fd1, fe1, ff1, fg1⟩ := t1.cells) | (go_at_call 56; refine (Hcp.out _).mono ?_; rintro e w6 ⟨rfl, b6⟩; have t6 : TokB w w6 := TokB.next (by first | assumption | exact TokB.start w) b6; clear b6; obtain ⟨⟨ka6, kb6, kc6, kd6, ke6, kf6, kg6⟩, fa6, fb6, fc6, fd6, fe6, ff6, fg6⟩ := t6.cells) | (go_at_call 57; refine (Hdg.out _).mono ?_; rintro e w7 ⟨rfl, b7⟩; have t7 : TokB w w7 := TokB.next (by first | assumption | exact TokB.start w) b7; clear b7; obtain ⟨⟨ka7, kb7, kc7, kd7, ke7, kf7, kg7⟩, fa7, fb7, fc7, fd7, fe7, ff7, fg7⟩ := t7.cells) | (go_at_call 26; refine (Hsy.out _).mono ?_; rintro e w8 ⟨rfl, b8⟩; have t8 : TokB w w8 := TokB.next (by first | assumption | exact TokB.start w) b8; clear b8; obtain ⟨⟨ka8, kb8, kc8, kd8, ke8, kf8, kg8⟩, fa8, fb8, fc8, fd8, fe8, ff8, fg8⟩ := t8.cells))
  go_loop [15] (fun i => ∃ k : Nat, i = .int .i64 k ∧ k ≤ 9 ∧ Hid (∀ j, ∀ h : j < marksB.size, j < k → marksB[j] ≠ c)) (fun i => 9 - (intOf i).toNat)
  case atStart => exact ⟨0, rfl, by omega, Lib.hid (fun j h hj => by omega)⟩
  case round =>
    obtain ⟨k, rfl, hk, Hk⟩ := hrel
    by_cases hlt : k < 9
    · have x1 : decide ((k : Int) < 9) = true := by simp; omega
      have x2 : decide (k < 9) = true := by simp; omega
      have h9 : k < (⟨#[40, 41, 91, 93, 44, 59, 96, 123, 125]⟩ : ByteArray).size := hlt
      by_cases he : marksB[k]'hlt = c
      · have x3 : ((((⟨#[40, 41, 91, 93, 44, 59, 96, 123, 125]⟩ : ByteArray)[k]).toNat : Int) == (c.toNat : Int)) = true := by
          rw [beq_iff_eq]; exact congrArg (fun x : UInt8 => (x.toNat : Int)) he
        have Hr := Lib.hid (Hyes.out (M2.out k hlt he))
        clear he
        go_wp2
        exact bodyPost_ret (v := .tuple #[.agg #[.int .i64 8, .string u, .int .i64 0, .int .i64 0, .int .i64 0, .int .i64 0, .bool false], .int .i64 1]) (by simp [results, Tryd.results35, go_sem, ka8, kb8, kc8, kd8, ke8, kf8, kg8]) rfl ⟨by rw [Hr.out]; rfl, t8.set7 _ _ _ _ _ _ _⟩
      · have x3 : ((((⟨#[40, 41, 91, 93, 44, 59, 96, 123, 125]⟩ : ByteArray)[k]).toNat : Int) == (c.toNat : Int)) = false := by
          rw [beq_eq_false_iff_ne]; intro g; exact he (UInt8.toNat_inj.1 (Int.ofNat.inj g))
        have Hn := Lib.hid (show ∀ j, ∀ h : j < marksB.size, j < k + 1 → marksB[j] ≠ c from fun j h hj => by
          by_cases g : j = k
          · subst g; exact he
          · exact Hk.out j h (by omega))
        clear he
        go_wp2
        go_round
        case rel => exact ⟨k + 1, by go_num, by omega, Hn⟩
        case measure => simp [intOf]; omega
    · have x1 : decide ((k : Int) < 9) = false := by simp; omega
      have x2 : decide (k < 9) = false := by simp; omega
      have Hr := Lib.hid (Hno.out (by
        cases g : markN c.toNat with
        | false => rfl
        | true =>
          obtain ⟨j, hj, he⟩ := M1.out g
          exact absurd he (Hk.out j hj (by have : j < 9 := hj; omega))))
      go_wp2
      exact bodyPost_ret (v := .tuple #[.agg #[.int .i64 0, .string ⟨#[]⟩, .int .i64 0, .int .i64 0, .int .i64 0, .int .i64 0, .bool false], .int .i64 0]) (by simp [results, Tryd.results35, go_sem, ka8, kb8, kc8, kd8, ke8, kf8, kg8]) rfl ⟨by rw [Hr.out]; rfl, t8.set7 _ _ _ _ _ _ _⟩
theorem rlex_any (s : ByteArray) (hs : s.size ≤ 100000) (at_ : Nat) (ha : at_ < s.size) (w : World) :
    Calls Tryd.prog 35 #[.string s, .int .i64 at_] w fun e w' => e = .returned (fdR (oneK (s.data.toList.drop at_))) ∧ Below w.heap.size w w' := by
  cases h0 : smallN s[at_].toNat with
  | true => exact rlex_small s hs at_ ha h0 w
  | false =>
    cases h1 : capN s[at_].toNat with
    | true => exact rlex_cap s hs at_ ha h0 h1 w
    | false =>
      cases h2 : digN s[at_].toNat with
      | true => exact rlex_dig s hs at_ ha h0 h1 h2 w
      | false =>
        by_cases h3 : s[at_].toNat = 39 ∨ s[at_].toNat = 34
        · exact rlex_quote s hs at_ ha h3 w
        · cases h4 : symN s[at_].toNat with
          | true => exact rlex_sym s hs at_ ha h4 w
          | false => exact rlex_mark s hs at_ ha h0 h1 h2 h3 h4 w
end Go.Proofs.YtiflklmjmdhfoaaDoor
