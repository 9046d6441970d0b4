/- The document's lexer: its functions of one byte, runs, remarks. The document's lexer: remarks and numbers. -/
import Derived.Test.YtiflklmjmdhfoaaDoorLxU
import Derived.Test.YtiflklmjmdhfoaaDoorLxJ
namespace Go.Proofs.YtiflklmjmdhfoaaDoor
open Go.RowKit Go.Shelf
set_option linter.unusedSimpArgs false

set_option maxRecDepth 1000000
theorem rblank_any (c : UInt8) (w : World) : Calls Tryd.prog 51 #[.int .u8 c.toNat] w fun e w' => e = .returned (.bool (blankN c.toNat)) ∧ Below w.heap.size w w' :=
  Bytes.bools_ok Bytes.lib (by kernel_rfl) c w
theorem rsmall_any (c : UInt8) (w : World) : Calls Tryd.prog 54 #[.int .u8 c.toNat] w fun e w' => e = .returned (.bool (smallN c.toNat)) ∧ Below w.heap.size w w' :=
  Bytes.bools_ok Bytes.lib (by kernel_rfl) c w
theorem rcapital_any (c : UInt8) (w : World) : Calls Tryd.prog 56 #[.int .u8 c.toNat] w fun e w' => e = .returned (.bool (capN c.toNat)) ∧ Below w.heap.size w w' :=
  Bytes.bools_ok Bytes.lib (by kernel_rfl) c w
theorem rdigit_any (c : UInt8) (w : World) : Calls Tryd.prog 57 #[.int .u8 c.toNat] w fun e w' => e = .returned (.bool (digN c.toNat)) ∧ Below w.heap.size w w' :=
  Bytes.bools_ok Bytes.lib (by kernel_rfl) c w
theorem rsymbol_any (c : UInt8) (w : World) : Calls Tryd.prog 26 #[.int .u8 c.toNat] w fun e w' => e = .returned (.bool (symN c.toNat)) ∧ Below w.heap.size w w' :=
  Bytes.bools_ok Bytes.lib (by kernel_rfl) c w
theorem rhex_any (c : UInt8) (w : World) : Calls Tryd.prog 58 #[.int .u8 c.toNat] w fun e w' => e = .returned (.int .i64 (hexI c.toNat)) ∧ Below w.heap.size w w' :=
  Bytes.ints_ok Bytes.lib (by kernel_rfl) c w
theorem bool_known {F : FuncId} {p : Nat → Bool} (h : ∀ (c : UInt8) (w : World), Calls Tryd.prog F #[.int .u8 c.toNat] w fun e w' => e = .returned (.bool (p c.toNat)) ∧ Below w.heap.size w w') (c : UInt8) (b : Bool) (hb : p c.toNat = b) (w : World) :
    Calls Tryd.prog F #[.int .u8 c.toNat] w fun e w' => e = .returned (.bool b) ∧ Below w.heap.size w w' := by
  rw [← hb]; exact h c w
theorem span_drop (p : Nat → Bool) (l : List UInt8) (at_ k : Nat) (h : at_ + k < l.length) : spanB p ((l.drop at_).drop k) = if p l[at_ + k].toNat then spanB p ((l.drop at_).drop (k + 1)) + 1 else 0 := by
  rw [List.drop_drop, List.drop_drop, spanB_at p l (at_ + k) h]
  rfl

set_option maxRecDepth 100000 in
set_option maxHeartbeats 8000000 in
theorem rsymbols_any (s : ByteArray) (hs : s.size ≤ 100000) (at_ : Nat) (ha : at_ ≤ s.size) (w : World) :
    Calls Tryd.prog 53 #[.string s, .int .i64 at_] w fun e w' => e = .returned (.int .i64 (spanB symN (s.data.toList.drop at_))) ∧ Below w.heap.size w w' := by
  have hsl : s.data.toList.length = s.size := rfl
  go_enter Tryd.func53, Tryd.ntmps53
  go_wp2
  go_loopw [5] (fun n wr => ∃ k : Nat, n = .int .i64 k ∧ at_ + k ≤ s.size ∧ Hid (spanB symN (s.data.toList.drop at_) = k + spanB symN ((s.data.toList.drop at_).drop k)) ∧ Below w.heap.size w wr) (fun n _ => s.size - (intOf n).toNat)
  case atStart => exact ⟨0, rfl, by omega, Lib.hid (by simp), Below.refl _ _⟩
  case round =>
    obtain ⟨k, rfl, hk, Hk, hB⟩ := hrel
    by_cases hlt : at_ + k < s.size
    · have hlt2 : decide ((at_ : Int) + (k : Int) < (s.size : Int)) = true := by simp; omega
      have hlt3 : decide (at_ + k < s.size) = true := by simp; omega
      have hat := span_drop symN s.data.toList at_ k hlt
      cases hq : symN s.data.toList[at_ + k].toNat with
      | true =>
        have Hc := Lib.hid (fun w => bool_known rsymbol_any s[at_ + k] true hq w)
        have Hn := Lib.hid (show spanB symN (s.data.toList.drop at_) = (k + 1 : Nat) + spanB symN ((s.data.toList.drop at_).drop (k + 1)) by rw [Hk.out, hat, hq, if_pos rfl]; omega)
        clear hat hq
        go_wp2_with (go_at_call 26; refine (Hc.out _).mono ?_; rintro e w1 ⟨rfl, b1⟩; have l1 := chain hB b1; clear b1)
        go_roundw
        case rel => exact ⟨k + 1, by go_num, by omega, Hn, l1⟩
        case measure => simp [intOf]; omega
      | false =>
        have Hc := Lib.hid (fun w => bool_known rsymbol_any s[at_ + k] false hq w)
        have Hn := Lib.hid (show spanB symN (s.data.toList.drop at_) = k by rw [Hk.out, hat, hq, if_neg Bool.false_ne_true]; omega)
        clear hat hq
        go_wp2_with (go_at_call 26; refine (Hc.out _).mono ?_; rintro e w1 ⟨rfl, b1⟩; have l1 := chain hB b1; clear b1)
        go_ret
        exact ⟨by rw [Hn.out]; rfl, l1⟩
    · have hlt2 : decide ((at_ : Int) + (k : Int) < (s.size : Int)) = false := by simp; omega
      have hlt3 : decide (at_ + k < s.size) = false := by simp; omega
      have Hn := Lib.hid (show spanB symN (s.data.toList.drop at_) = k by rw [Hk.out, List.drop_drop, spanB_end _ _ _ (by omega)]; rfl)
      go_wp2
      go_ret
      exact ⟨by rw [Hn.out]; rfl, hB⟩

theorem name_false (n : Nat) (h1 : smallN n = false) (h2 : capN n = false) (h3 : digN n = false) (h4 : n ≠ 39) : nameN n = false := by
  have : Nat.beq n 39 = false := by
    cases e : Nat.beq n 39 with
    | false => rfl
    | true => exact absurd (Nat.eq_of_beq_eq_true e) h4
  simp [nameN, h1, h2, h3, this]
theorem name_true (n : Nat) (h : smallN n = true ∨ capN n = true ∨ digN n = true ∨ n = 39) : nameN n = true := by
  rcases h with h | h | h | h
  · simp [nameN, h]
  · simp [nameN, h]
  · simp [nameN, h]
  · subst h; rfl

set_option maxRecDepth 100000 in
set_option maxHeartbeats 8000000 in
theorem rrun_any (s : ByteArray) (hs : s.size ≤ 100000) (at_ : Nat) (ha : at_ ≤ s.size) (w : World) :
    Calls Tryd.prog 55 #[.string s, .int .i64 at_] w fun e w' => e = .returned (.int .i64 (spanB nameN (s.data.toList.drop at_))) ∧ Below w.heap.size w w' := by
  have hsl : s.data.toList.length = s.size := rfl
  go_enter Tryd.func55, Tryd.ntmps55
  go_wp2
  go_loopw [5] (fun n wr => ∃ k : Nat, n = .int .i64 k ∧ at_ + k ≤ s.size ∧ Hid (spanB nameN (s.data.toList.drop at_) = k + spanB nameN ((s.data.toList.drop at_).drop k)) ∧ Below w.heap.size w wr) (fun n _ => s.size - (intOf n).toNat)
  case atStart => exact ⟨0, rfl, by omega, Lib.hid (by simp), Below.refl _ _⟩
  case round =>
    obtain ⟨k, rfl, hk, Hk, hB⟩ := hrel
    by_cases hlt : at_ + k < s.size
    · have hlt2 : decide ((at_ : Int) + (k : Int) < (s.size : Int)) = true := by simp; omega
      have hlt3 : decide (at_ + k < s.size) = true := by simp; omega
      have hat := span_drop nameN s.data.toList at_ k hlt
      have hyes : nameN s.data.toList[at_ + k].toNat = true → spanB nameN (s.data.toList.drop at_) = (k + 1 : Nat) + spanB nameN ((s.data.toList.drop at_).drop (k + 1)) := fun h => by rw [Hk.out, hat, h, if_pos rfl]; omega
      have hno : nameN s.data.toList[at_ + k].toNat = false → spanB nameN (s.data.toList.drop at_) = k := fun h => by rw [Hk.out, hat, h, if_neg Bool.false_ne_true]; omega
      clear hat
      cases h1 : smallN s.data.toList[at_ + k].toNat with
      | true =>
        have C1 := Lib.hid (fun w => bool_known rsmall_any s[at_ + k] true h1 w)
        have Hn := Lib.hid (hyes (name_true _ (.inl h1)))
        clear hyes hno h1
        go_wp2_with (go_at_call 54; refine (C1.out _).mono ?_; rintro e w1 ⟨rfl, b1⟩; have l1 := chain hB b1; clear b1)
        go_roundw
        case rel => exact ⟨k + 1, by go_num, by omega, Hn, l1⟩
        case measure => simp [intOf]; omega
      | false =>
        have C1 := Lib.hid (fun w => bool_known rsmall_any s[at_ + k] false h1 w)
        cases h2 : capN s.data.toList[at_ + k].toNat with
        | true =>
          have C2 := Lib.hid (fun w => bool_known rcapital_any s[at_ + k] true h2 w)
          have Hn := Lib.hid (hyes (name_true _ (.inr (.inl h2))))
          clear hyes hno h1 h2
          go_wp2_with (first | (go_at_call 54; refine (C1.out _).mono ?_; rintro e w1 ⟨rfl, b1⟩; have l1 := chain hB b1; clear b1) | (go_at_call 56; refine (C2.out _).mono ?_; rintro e w2 ⟨rfl, b2⟩; have l2 := chain l1 b2; clear b2))
          go_roundw
          case rel => exact ⟨k + 1, by go_num, by omega, Hn, l2⟩
          case measure => simp [intOf]; omega
        | false =>
          have C2 := Lib.hid (fun w => bool_known rcapital_any s[at_ + k] false h2 w)
          cases h3 : digN s.data.toList[at_ + k].toNat with
          | true =>
            have C3 := Lib.hid (fun w => bool_known rdigit_any s[at_ + k] true h3 w)
            have Hn := Lib.hid (hyes (name_true _ (.inr (.inr (.inl h3)))))
            clear hyes hno h1 h2 h3
            go_wp2_with (first | (go_at_call 54; refine (C1.out _).mono ?_; rintro e w1 ⟨rfl, b1⟩; have l1 := chain hB b1; clear b1) | (go_at_call 56; refine (C2.out _).mono ?_; rintro e w2 ⟨rfl, b2⟩; have l2 := chain l1 b2; clear b2) | (go_at_call 57; refine (C3.out _).mono ?_; rintro e w3 ⟨rfl, b3⟩; have l3 := chain l2 b3; clear b3))
            go_roundw
            case rel => exact ⟨k + 1, by go_num, by omega, Hn, l3⟩
            case measure => simp [intOf]; omega
          | false =>
            have C3 := Lib.hid (fun w => bool_known rdigit_any s[at_ + k] false h3 w)
            by_cases h4 : s.data.toList[at_ + k].toNat = 39
            · have Hn := Lib.hid (hyes (name_true _ (.inr (.inr (.inr h4)))))
              have e4 : ((s[at_ + k].toNat : Int) == 39) = true := by rw [beq_iff_eq]; exact congrArg Int.ofNat h4
              clear hyes hno h1 h2 h3 h4
              go_wp2_with (first | (go_at_call 54; refine (C1.out _).mono ?_; rintro e w1 ⟨rfl, b1⟩; have l1 := chain hB b1; clear b1) | (go_at_call 56; refine (C2.out _).mono ?_; rintro e w2 ⟨rfl, b2⟩; have l2 := chain l1 b2; clear b2) | (go_at_call 57; refine (C3.out _).mono ?_; rintro e w3 ⟨rfl, b3⟩; have l3 := chain l2 b3; clear b3))
              go_roundw
              case rel => exact ⟨k + 1, by go_num, by omega, Hn, l3⟩
              case measure => simp [intOf]; omega
            · have Hn := Lib.hid (hno (name_false _ h1 h2 h3 h4))
              have e4 : ((s[at_ + k].toNat : Int) == 39) = false := by rw [beq_eq_false_iff_ne]; intro h; exact h4 (Int.ofNat.inj h)
              clear hyes hno h1 h2 h3 h4
              go_wp2_with (first | (go_at_call 54; refine (C1.out _).mono ?_; rintro e w1 ⟨rfl, b1⟩; have l1 := chain hB b1; clear b1) | (go_at_call 56; refine (C2.out _).mono ?_; rintro e w2 ⟨rfl, b2⟩; have l2 := chain l1 b2; clear b2) | (go_at_call 57; refine (C3.out _).mono ?_; rintro e w3 ⟨rfl, b3⟩; have l3 := chain l2 b3; clear b3))
              go_ret
              exact ⟨by rw [Hn.out]; rfl, l3⟩
    · have hlt2 : decide ((at_ : Int) + (k : Int) < (s.size : Int)) = false := by simp; omega
      have hlt3 : decide (at_ + k < s.size) = false := by simp; omega
      have Hn := Lib.hid (show spanB nameN (s.data.toList.drop at_) = k by rw [Hk.out, List.drop_drop, spanB_end _ _ _ (by omega)]; rfl)
      go_wp2
      go_ret
      exact ⟨by rw [Hn.out]; rfl, hB⟩

/-! ## Words and signs -/
def strs2 (l : List (List UInt8)) : List Value := l.map fun x => .string ⟨x.toArray⟩
theorem rwords_any (w : World) : Calls Tryd.prog 44 #[] w fun e w' => e = .returned (.slice (some ⟨w.heap.size, 0, none⟩) 14 14) ∧ w' = w.alloc (.cells (strs2 wordsL).toArray 9) := by
  go_enter Tryd.func44, Tryd.ntmps44
  go_wp2
  go_ret
  exact ⟨rfl, rfl⟩
theorem rsigns_any (w : World) : Calls Tryd.prog 46 #[] w fun e w' => e = .returned (.slice (some ⟨w.heap.size, 0, none⟩) 8 8) ∧ w' = w.alloc (.cells (strs2 signsL).toArray 9) := by
  go_enter Tryd.func46, Tryd.ntmps46
  go_wp2
  go_ret
  exact ⟨rfl, rfl⟩
set_option maxRecDepth 100000 in
set_option maxHeartbeats 8000000 in
theorem rone_any (g cap : Nat) (l : List (List UInt8)) (s : ByteArray) (hl : l.length ≤ 1000) (w : World) (hc : ∀ k (h : k < l.length), w.cell? ⟨g, k, none⟩ = some (.string ⟨l[k].toArray⟩)) :
    Calls Tryd.prog 43 #[.slice (some ⟨g, 0, none⟩) l.length cap, .string s] w fun e w' => e = .returned (.bool (decide (s.data.toList ∈ l))) ∧ w' = w := by
  obtain ⟨N, hN⟩ : ∃ N, l.length = N := ⟨_, rfl⟩
  have HN := Lib.hid hN
  have Hc := Lib.hid hc
  rw [hN] at hl ⊢
  clear hN hc
  go_enter Tryd.func43, Tryd.ntmps43
  go_wp2
  go_loop [5] (fun i => ∃ k : Nat, i = .int .i64 k ∧ k ≤ N ∧ Hid (∀ x ∈ l.take k, x ≠ s.data.toList)) (fun i => N - (intOf i).toNat)
  case atStart => exact ⟨0, rfl, Nat.zero_le _, Lib.hid (by simp)⟩
  case round =>
    obtain ⟨k, rfl, hk, Hk⟩ := hrel
    by_cases hlt : k < N
    · have hlt2 : decide ((k : Int) < (N : Int)) = true := by simp; omega
      have hlt3 : decide (k < N) = true := by simp; omega
      have hkl : k < l.length := by rw [HN.out]; exact hlt
      have hcell := Hc.out k hkl
      obtain ⟨u, hu⟩ : ∃ u : ByteArray, (⟨l[k].toArray⟩ : ByteArray) = u := ⟨_, rfl⟩
      have hud : u.data.toList = l[k] := by rw [← hu]
      rw [hu] at hcell
      by_cases he : l[k] = s.data.toList
      · have e1 : (u.toList == s.toList) = true := by rw [Lib.toList_data, Lib.toList_data, hud, he]; simp
        have Hn := Lib.hid (decide_eq_true (show s.data.toList ∈ l by rw [← he]; exact List.getElem_mem hkl))
        clear he hud hu
        go_wp2
        go_ret
        exact ⟨by rw [Hn.out]; rfl, rfl⟩
      · have e1 : (u.toList == s.toList) = false := by rw [Lib.toList_data, Lib.toList_data, hud, beq_eq_false_iff_ne]; exact he
        have Hn : Hid (∀ x ∈ l.take (k + 1), x ≠ s.data.toList) := Lib.hid (by
          rw [List.take_succ_eq_append_getElem hkl]
          intro x hx
          rcases List.mem_append.1 hx with hx | hx
          · exact Hk.out x hx
          · rw [List.mem_singleton.1 hx]; exact he)
        clear he hud hu
        go_wp2
        go_round
        case rel => exact ⟨k + 1, by go_num, by omega, Hn⟩
        case measure => simp [intOf]; omega
    · have hlt2 : decide ((k : Int) < (N : Int)) = false := by simp; omega
      have hlt3 : decide (k < N) = false := by simp; omega
      have Hn := Lib.hid (decide_eq_false (show ¬ s.data.toList ∈ l by
        intro hm
        have := Hk.out
        rw [List.take_of_length_le (by rw [HN.out]; omega)] at this
        exact this _ hm rfl))
      go_wp2
      go_ret
      exact ⟨by rw [Hn.out]; rfl, rfl⟩
theorem strs_cells (w : World) (l : List (List UInt8)) : ∀ k (h : k < l.length), (w.alloc (.cells (strs2 l).toArray 9)).cell? ⟨w.heap.size, k, none⟩ = some (.string ⟨l[k].toArray⟩) := by
  intro k h
  have := (Blk.new w (strs2 l).toArray 9).cell k
  rw [this]
  simp [strs2, h]
set_option maxRecDepth 100000 in
set_option maxHeartbeats 8000000 in
theorem rWord_any (s : ByteArray) (w : World) : Calls Tryd.prog 22 #[.string s] w fun e w' => e = .returned (.bool (decide (s.data.toList ∈ wordsL))) ∧ Below w.heap.size w w' := by
  have H1 := Lib.hid (rone_any w.heap.size 14 wordsL s (by decide) _ (strs_cells w wordsL))
  go_enter Tryd.func22, Tryd.ntmps22
  go_wp2_with (first | (go_at_call 44; refine (rwords_any _).mono ?_; rintro e w1 ⟨rfl, rfl⟩) | (go_at_call 43; refine H1.out.mono ?_; rintro e w1 ⟨rfl, rfl⟩))
  go_ret
  exact ⟨rfl, (Below.refl _ w).alloc (Nat.le_refl _) _⟩
set_option maxRecDepth 100000 in
set_option maxHeartbeats 8000000 in
theorem rSign_any (s : ByteArray) (w : World) : Calls Tryd.prog 24 #[.string s] w fun e w' => e = .returned (.bool (decide (s.data.toList ∈ signsL))) ∧ Below w.heap.size w w' := by
  have H1 := Lib.hid (rone_any w.heap.size 8 signsL s (by decide) _ (strs_cells w signsL))
  go_enter Tryd.func24, Tryd.ntmps24
  go_wp2_with (first | (go_at_call 46; refine (rsigns_any _).mono ?_; rintro e w1 ⟨rfl, rfl⟩) | (go_at_call 43; refine H1.out.mono ?_; rintro e w1 ⟨rfl, rfl⟩))
  go_ret
  exact ⟨rfl, (Below.refl _ w).alloc (Nat.le_refl _) _⟩

/-! ## after, Check -/
set_option maxRecDepth 100000 in
set_option maxHeartbeats 8000000 in
theorem rafter_any (p : Nat × Nat) (h1 : p.1 ≤ 10000000) (h2 : p.2 ≤ 100000000) (h3 : 1 ≤ p.2) (c : UInt8) (w : World) :
    Calls Tryd.prog 36 #[.int .i64 p.1, .int .i64 p.2, .int .u8 c.toNat] w fun e w' => e = .returned (.tuple #[.int .i64 (overB p c).1, .int .i64 (overB p c).2]) ∧ w' = w := by
  obtain ⟨ln, cl⟩ := p
  simp only at h1 h2 h3
  by_cases e10 : c.toNat = 10
  · have d1 : ((c.toNat : Int) == 10) = true := by rw [beq_iff_eq]; omega
    have Hr := Lib.hid (show overB (ln, cl) c = (ln + 1, 1) by unfold overB; rw [if_pos e10])
    clear e10
    go_enter Tryd.func36, Tryd.ntmps36
    go_wp2
    go_ret2
    exact ⟨by rw [Hr.out]; rfl, rfl⟩
  · have d1 : ((c.toNat : Int) == 10) = false := by rw [beq_eq_false_iff_ne]; omega
    by_cases e9 : c.toNat = 9
    · have d2 : ((c.toNat : Int) == 9) = true := by rw [beq_iff_eq]; omega
      have Hr := Lib.hid (show overB (ln, cl) c = (ln, (cl + 7) / 8 * 8 + 1) by unfold overB; rw [if_neg e10, if_pos e9]; simp only [Prod.mk.injEq, true_and]; omega)
      clear e10 e9
      go_enter Tryd.func36, Tryd.ntmps36
      go_wp2
      go_ret2
      exact ⟨by rw [Hr.out]; rfl, rfl⟩
    · have d2 : ((c.toNat : Int) == 9) = false := by rw [beq_eq_false_iff_ne]; omega
      have Hr := Lib.hid (show overB (ln, cl) c = (ln, cl + 1) by unfold overB; rw [if_neg e10, if_neg e9])
      clear e10 e9
      go_enter Tryd.func36, Tryd.ntmps36
      go_wp2
      go_ret2
      exact ⟨by rw [Hr.out]; rfl, rfl⟩

set_option maxRecDepth 100000 in
set_option maxHeartbeats 8000000 in
theorem rcheck_any (s : ByteArray) (hs : s.size ≤ 9223372036854775807) (w : World) :
    Calls Tryd.prog 33 #[.string s] w fun e w' => e = .returned (faultV (checkF s.data.toList)) ∧ Below w.heap.size w w' := by
  have hl0 : s.data.toList.length = s.size := rfl
  by_cases hlong : 65536 < s.size
  · have hres : checkF s.data.toList = (3, -1) := by unfold checkF; rw [if_pos (by omega)]
    have Hres := Lib.hid hres; clear hres
    go_enter Tryd.func33, Tryd.ntmps33
    go_wp2
    exact bodyPost_ret (v := .agg #[.int .i64 3, .int .i64 (-1)]) (by simp [results, Tryd.results33, go_sem, hs]) rfl ⟨by rw [Hres.out]; rfl, by exact (by ((repeat (first | exact Below.refl _ _ | (refine Below.alloc ?_ (by first | (simp [World.setCell]; done) | (simp [World.setCell]; omega)) _) | (refine Below.setCell ?_ (by first | (simp [World.setCell]; done) | (simp [World.setCell]; omega)) _) | refine Below.drew ?_ | (refine Below.trans ?_ ((below_drewN _ _).mono (by first | (simp [World.setCell]; done) | (simp [World.setCell]; omega))))))))⟩
  · have hres : checkF s.data.toList = chkGo 0 (s.data.toList.drop 0) := by unfold checkF; rw [if_neg (by omega)]; rfl
    have Hres := Lib.hid hres; clear hres
    go_enter Tryd.func33, Tryd.ntmps33
    go_wp2
    go_loop [3] (fun i => ∃ k : Nat, i = .int .i64 k ∧ k ≤ s.size ∧ Hid (checkF s.data.toList = chkGo k (s.data.toList.drop k))) (fun i => s.size - (intOf i).toNat)
    case atStart => exact ⟨0, rfl, Nat.zero_le _, Hres⟩
    case round =>
      obtain ⟨k, rfl, hk, Hk⟩ := hrel
      by_cases hlt : k < s.size
      · have ha := Hk.out.trans (chkGo_at s.data.toList k hlt)
        obtain ⟨n, hn⟩ : ∃ n, s[k].toNat = n := ⟨_, rfl⟩
        have hb : badB s.data.toList[k] = decide ((n < 32 ∨ 126 < n) ∧ n ≠ 9 ∧ n ≠ 10) := by rw [← hn]; rfl
        rw [hb] at ha
        clear hb
        rcases byte_sort n with ⟨c1, c2, c3⟩ | rfl | rfl | ⟨c1, c2⟩ | c1
        · have H := Lib.hid (ha.trans (if_pos (by simp; omega)))
          have d1 : decide ((32 : Int) ≤ (n : Int)) = false := decide_eq_false (by omega)
          have d2 : ((n : Int) == 9) = false := by rw [beq_eq_false_iff_ne]; omega
          have d3 : ((n : Int) == 10) = false := by rw [beq_eq_false_iff_ne]; omega
          clear ha
          go_wp2
          exact bodyPost_ret (v := .agg #[.int .i64 4, .int .i64 k]) (by simp [results, Tryd.results33, go_sem, hn]) rfl ⟨by rw [H.out]; rfl, by exact (by ((repeat (first | exact Below.refl _ _ | (refine Below.alloc ?_ (by first | (simp [World.setCell]; done) | (simp [World.setCell]; omega)) _) | (refine Below.setCell ?_ (by first | (simp [World.setCell]; done) | (simp [World.setCell]; omega)) _) | refine Below.drew ?_ | (refine Below.trans ?_ ((below_drewN _ _).mono (by first | (simp [World.setCell]; done) | (simp [World.setCell]; omega))))))))⟩
        · have H := Lib.hid (ha.trans (if_neg (by simp)))
          clear ha
          go_wp2
          go_round
          case rel => exact ⟨k + 1, by go_num, by omega, H⟩
          case measure => simp [intOf]; omega
        · have H := Lib.hid (ha.trans (if_neg (by simp)))
          clear ha
          go_wp2
          go_round
          case rel => exact ⟨k + 1, by go_num, by omega, H⟩
          case measure => simp [intOf]; omega
        · have H := Lib.hid (ha.trans (if_neg (by simp; omega)))
          have d1 : decide ((32 : Int) ≤ (n : Int)) = true := decide_eq_true (by omega)
          have d2 : decide ((n : Int) ≤ 126) = true := decide_eq_true (by omega)
          clear ha
          go_wp2
          go_round
          case rel => exact ⟨k + 1, by go_num, by omega, H⟩
          case measure => simp [intOf]; omega
        · have H := Lib.hid (ha.trans (if_pos (by simp; omega)))
          have d1 : decide ((32 : Int) ≤ (n : Int)) = true := decide_eq_true (by omega)
          have d1b : decide ((n : Int) ≤ 126) = false := decide_eq_false (by omega)
          have d2 : ((n : Int) == 9) = false := by rw [beq_eq_false_iff_ne]; omega
          have d3 : ((n : Int) == 10) = false := by rw [beq_eq_false_iff_ne]; omega
          clear ha
          go_wp2
          exact bodyPost_ret (v := .agg #[.int .i64 4, .int .i64 k]) (by simp [results, Tryd.results33, go_sem, hn]) rfl ⟨by rw [H.out]; rfl, by exact (by ((repeat (first | exact Below.refl _ _ | (refine Below.alloc ?_ (by first | (simp [World.setCell]; done) | (simp [World.setCell]; omega)) _) | (refine Below.setCell ?_ (by first | (simp [World.setCell]; done) | (simp [World.setCell]; omega)) _) | refine Below.drew ?_ | (refine Below.trans ?_ ((below_drewN _ _).mono (by first | (simp [World.setCell]; done) | (simp [World.setCell]; omega))))))))⟩
      · have H := Lib.hid (Hk.out.trans (chkGo_end s.data.toList k (by omega)))
        have d0 : decide ((k : Int) < s.size) = false := by simp; omega
        go_wp2
        exact bodyPost_ret (v := .agg #[.int .i64 0, .int .i64 0]) (by simp [results, Tryd.results33, go_sem, d0]) rfl ⟨by rw [H.out]; rfl, by exact (by ((repeat (first | exact Below.refl _ _ | (refine Below.alloc ?_ (by first | (simp [World.setCell]; done) | (simp [World.setCell]; omega)) _) | (refine Below.setCell ?_ (by first | (simp [World.setCell]; done) | (simp [World.setCell]; omega)) _) | refine Below.drew ?_ | (refine Below.trans ?_ ((below_drewN _ _).mono (by first | (simp [World.setCell]; done) | (simp [World.setCell]; omega))))))))⟩
end Go.Proofs.YtiflklmjmdhfoaaDoor

namespace Go.Proofs.YtiflklmjmdhfoaaDoor
open Go.RowKit Go.Shelf
set_option linter.unusedSimpArgs false

theorem nest_two' (l : List UInt8) (f : Nat) (d : Int) (j i : Nat) (h : j + 1 < l.length) :
    nestGo (f + 1) (l.drop j) d i = if l[j] = 123 ∧ l[j + 1] = 45 then nestGo f (l.drop (j + 2)) (d + 1) (i + 2)
      else if l[j] = 45 ∧ l[j + 1] = 125 then (if d - 1 = 0 then ((i + 2 : Nat) : Int) else nestGo f (l.drop (j + 2)) (d - 1) (i + 2))
      else nestGo f (l.drop (j + 1)) d (i + 1) := by
  rw [List.drop_eq_getElem_cons (by omega : j < l.length), List.drop_eq_getElem_cons h, nestGo]
theorem nest_end' (l : List UInt8) (f : Nat) (d : Int) (j i : Nat) (h : l.length ≤ j + 1) : nestGo f (l.drop j) d i = -1 := by
  cases f with
  | zero => rfl
  | succ f =>
    by_cases hk : j < l.length
    · rw [List.drop_eq_getElem_cons hk, List.drop_eq_nil_of_le (by omega)]; rfl
    · rw [List.drop_eq_nil_of_le (by omega)]; rfl
theorem byte_num (a : UInt8) (n : Nat) (hn : n < 256) : (a = UInt8.ofNat n → ((a.toNat : Int) == (n : Int)) = true) ∧ (a ≠ UInt8.ofNat n → ((a.toNat : Int) == (n : Int)) = false) := by
  constructor
  · intro h; rw [h, beq_iff_eq]; simp; omega
  · intro h
    rw [beq_eq_false_iff_ne]
    intro e
    exact h (UInt8.toNat_inj.1 (by simp; omega))

set_option maxRecDepth 100000 in
set_option maxHeartbeats 8000000 in
theorem rnested_any (s : ByteArray) (hs : s.size ≤ 100000) (at_ : Nat) (ha : at_ ≤ s.size) (w : World) :
    Calls Tryd.prog 52 #[.string s, .int .i64 at_] w fun e w' => e = .returned (.int .i64 (nestGo s.size (s.data.toList.drop at_) 0 0)) ∧ w' = w := by
  have hsl : s.data.toList.length = s.size := rfl
  obtain ⟨R, hR⟩ : ∃ R, nestGo s.size (s.data.toList.drop at_) 0 0 = R := ⟨_, rfl⟩
  rw [hR]
  have HR := Lib.hid hR
  clear hR
  go_enter Tryd.func52, Tryd.ntmps52
  go_wp2
  go_loop [5, 6] (fun d i => ∃ (x : Int) (j k f : Nat), d = .int .i64 x ∧ i = .int .i64 j ∧ j ≤ s.size ∧ at_ + k = j ∧ -k ≤ x ∧ x ≤ k ∧ s.size ≤ f + k ∧ Hid (R = nestGo f (s.data.toList.drop j) x k)) (fun _ i => s.size - (intOf i).toNat)
  case atStart => exact ⟨0, at_, 0, s.size, rfl, rfl, ha, rfl, by simp, by simp, by omega, Lib.hid HR.out.symm⟩
  case round =>
    obtain ⟨x, j, k, f, rfl, rfl, hj, hjk, hx1, hx2, hf, Hk⟩ := hrel
    by_cases hlt : j + 1 < s.size
    · have hlt2 : decide ((j : Int) + 1 < s.size) = true := by simp; omega
      obtain ⟨g, rfl⟩ : ∃ g, f = g + 1 := ⟨f - 1, by omega⟩
      have Ht := Hk.out.trans (nest_two' s.data.toList g x j k hlt)
      obtain ⟨a, hae⟩ : ∃ a, s[j] = a := ⟨_, rfl⟩
      obtain ⟨b, hbe⟩ : ∃ b, s[j + 1] = b := ⟨_, rfl⟩
      rw [show s.data.toList[j] = a from hae, show s.data.toList[j + 1] = b from hbe] at Ht
      by_cases a1 : a = 123
      · have e1 : ((a.toNat : Int) == 123) = true := (byte_num a 123 (by omega)).1 a1
        have e1b : ((a.toNat : Int) == 45) = false := by rw [a1]; rfl
        by_cases b1 : b = 45
        · have e2 : ((b.toNat : Int) == 45) = true := (byte_num b 45 (by omega)).1 b1
          have Hn := Lib.hid (Ht.trans (if_pos ⟨a1, b1⟩))
          clear Ht a1 b1
          go_wp2
          go_round
          case rel => exact ⟨x + 1, j + 2, k + 2, g, rfl, by go_num, by omega, by omega, by omega, by omega, by omega, Hn⟩
          case measure => simp [intOf]; omega
        · have e2 : ((b.toNat : Int) == 45) = false := (byte_num b 45 (by omega)).2 b1
          have Hn := Lib.hid (Ht.trans ((if_neg (fun h => b1 h.2)).trans (if_neg (fun h => by rw [a1] at h; exact absurd h.1 (by decide)))))
          clear Ht a1 b1
          go_wp2
          go_round
          case rel => exact ⟨x, j + 1, k + 1, g, rfl, by go_num, by omega, by omega, by omega, by omega, by omega, Hn⟩
          case measure => simp [intOf]; omega
      · have e1 : ((a.toNat : Int) == 123) = false := (byte_num a 123 (by omega)).2 a1
        by_cases a2 : a = 45
        · have e3 : ((a.toNat : Int) == 45) = true := (byte_num a 45 (by omega)).1 a2
          by_cases b2 : b = 125
          · have e4 : ((b.toNat : Int) == 125) = true := (byte_num b 125 (by omega)).1 b2
            have Ht2 := Ht.trans ((if_neg (fun h => a1 h.1)).trans (if_pos ⟨a2, b2⟩))
            by_cases c3 : x - 1 = 0
            · have Hn := Lib.hid (Ht2.trans (if_pos c3))
              have e5 : ((x - 1 : Int) == 0) = true := by rw [beq_iff_eq]; exact c3
              obtain rfl : x = 1 := by omega
              have e6 : ((j : Int) + 2) - (at_ : Int) = ((k + 2 : Nat) : Int) := by omega
              clear Ht Ht2 a1 a2 b2 c3
              go_wp2
              go_ret
              exact ⟨by rw [Hn.out]; rfl, rfl⟩
            · have Hn := Lib.hid (Ht2.trans (if_neg c3))
              have e5 : ((x - 1 : Int) == 0) = false := by rw [beq_eq_false_iff_ne]; exact c3
              clear Ht Ht2 a1 a2 b2 c3
              go_wp2
              go_round
              case rel => exact ⟨x - 1, j + 2, k + 2, g, rfl, by go_num, by omega, by omega, by omega, by omega, by omega, Hn⟩
              case measure => simp [intOf]; omega
          · have e4 : ((b.toNat : Int) == 125) = false := (byte_num b 125 (by omega)).2 b2
            have Hn := Lib.hid (Ht.trans ((if_neg (fun h => a1 h.1)).trans (if_neg (fun h => b2 h.2))))
            clear Ht a1 a2 b2
            go_wp2
            go_round
            case rel => exact ⟨x, j + 1, k + 1, g, rfl, by go_num, by omega, by omega, by omega, by omega, by omega, Hn⟩
            case measure => simp [intOf]; omega
        · have e3 : ((a.toNat : Int) == 45) = false := (byte_num a 45 (by omega)).2 a2
          have Hn := Lib.hid (Ht.trans ((if_neg (fun h => a1 h.1)).trans (if_neg (fun h => a2 h.1))))
          clear Ht a1 a2
          go_wp2
          go_round
          case rel => exact ⟨x, j + 1, k + 1, g, rfl, by go_num, by omega, by omega, by omega, by omega, by omega, Hn⟩
          case measure => simp [intOf]; omega
    · have hlt2 : decide ((j : Int) + 1 < s.size) = false := by simp; omega
      have Hn := Lib.hid (Hk.out.trans (nest_end' s.data.toList f x j k (by omega)))
      go_wp2
      go_ret
      exact ⟨by rw [Hn.out]; rfl, rfl⟩

/-! ## passed -/
def passedK (l : List UInt8) : Int := match l with
  | [] => 0
  | a :: _ => if blankN a.toNat then 1 else remarkK l
theorem nest_fuel (l : List UInt8) (f : Nat) (h : l.length ≤ f) : nestGo f l 0 0 = nestGo l.length l 0 0 := by
  have gen : ∀ (f g : Nat) (l : List UInt8) (d : Int) (i : Nat), l.length ≤ f → l.length ≤ g → nestGo f l d i = nestGo g l d i := by
    intro f
    induction f with
    | zero =>
      intro g l d i h1 _
      have : l = [] := List.length_eq_zero_iff.1 (by omega)
      subst this
      cases g <;> rfl
    | succ f ih =>
      intro g l d i h1 h2
      match l, h1, h2 with
      | [], _, _ => cases g <;> rfl
      | [_], _, _ => cases g <;> rfl
      | a :: b :: l, h1, h2 =>
        simp only [List.length_cons] at h1 h2
        obtain ⟨g, rfl⟩ : ∃ k, g = k + 1 := ⟨g - 1, by omega⟩
        simp only [nestGo]
        rw [ih g l (d + 1) (i + 2) (by omega) (by omega), ih g l (d - 1) (i + 2) (by omega) (by omega), ih g (b :: l) d (i + 1) (by simp; omega) (by simp; omega)]
  exact gen f l.length l 0 0 h (Nat.le_refl _)
theorem nested_known (s : ByteArray) (hs : s.size ≤ 100000) (at_ : Nat) (ha : at_ ≤ s.size) (m : Int) (h : nestGo (s.data.toList.drop at_).length (s.data.toList.drop at_) 0 0 = m) (w : World) :
    Calls Tryd.prog 52 #[.string s, .int .i64 at_] w fun e w' => e = .returned (.int .i64 m) ∧ Below w.heap.size w w' := by
  refine (rnested_any s hs at_ ha w).mono ?_
  rintro e w' ⟨rfl, rfl⟩
  rw [← h, nest_fuel _ _ (by rw [List.length_drop]; show s.size - at_ ≤ s.size; omega)]
  exact ⟨rfl, Below.refl _ _⟩
theorem symbols_known (s : ByteArray) (hs : s.size ≤ 100000) (at_ : Nat) (ha : at_ ≤ s.size) (n : Nat) (h : spanB symN (s.data.toList.drop at_) = n) (w : World) :
    Calls Tryd.prog 53 #[.string s, .int .i64 at_] w fun e w' => e = .returned (.int .i64 n) ∧ Below w.heap.size w w' := by
  rw [← h]; exact rsymbols_any s hs at_ ha w
end Go.Proofs.YtiflklmjmdhfoaaDoor
