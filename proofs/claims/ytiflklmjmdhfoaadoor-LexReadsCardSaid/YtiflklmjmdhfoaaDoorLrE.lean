/- The document's lexer: characters and strings. The document's lexer: quoted lexemes. -/
import Derived.Test.YtiflklmjmdhfoaaDoorLrC
namespace Go.Proofs.YtiflklmjmdhfoaaDoor
open Go.RowKit Go.Shelf
set_option linter.unusedSimpArgs false
set_option linter.unusedVariables false

def chRV (p : Int × Nat) : Value := .tuple #[.int .i64 p.1, .int .i64 p.2]
theorem number_known (s : ByteArray) (hs : s.size ≤ 100000) (at_ : Nat) (ha : at_ ≤ s.size) (b : Nat) (hb : b = 10 ∨ b = 16) (o : Option (Nat × Nat)) (h : numGo b (digP b) (s.data.toList.drop at_) 0 0 = o) (w : World) :
    Calls Tryd.prog 59 #[.string s, .int .i64 at_, .int .i64 b] w fun e w' => e = .returned (numV o) ∧ Below w.heap.size w w' := by
  rw [← h]; exact rnumber_any s hs at_ ha b hb w
theorem numV_no : numV none = .tuple #[.int .i64 0, .int .i64 0, .bool false] := rfl
theorem numV_yes (x n : Nat) : numV (some (x, n)) = .tuple #[.int .i64 x, .int .i64 n, .bool true] := rfl
/-- The value of digits, by the document's number. -/
theorem num_dig (b : Nat) (l : List UInt8) : numGo b (digP b) l 0 0 = (wholeK b (l.take (spanB (digP b) l))).map fun y => (y, spanB (digP b) l) := by
  rw [numGo_eq]; simp [wholeK]

/-- The first byte is none of a character, or it stands for itself. -/
theorem charK_plain (a : UInt8) (r : List UInt8) (q : Nat) (h : a.toNat ≠ 92) (hq : ¬ (a.toNat < 32 ∨ 126 < a.toNat ∨ a.toNat = q)) : charK (a :: r) q = some (a.toNat, 1) := by
  simp only [charK]
  rw [if_neg hq, if_pos h]
theorem charK_none (a : UInt8) (r : List UInt8) (q : Nat) (hq : a.toNat < 32 ∨ 126 < a.toNat ∨ a.toNat = q) : charK (a :: r) q = none := by
  simp only [charK]
  rw [if_pos hq]
theorem charR_plain (a : UInt8) (r : List UInt8) (q : Nat) (h : a.toNat ≠ 92) (hq : ¬ (a.toNat < 32 ∨ 126 < a.toNat ∨ a.toNat = q)) : charR (a :: r) q = ((a.toNat : Int), 1) := by
  unfold charR
  rw [charK_plain a r q h hq]
theorem charR_none (a : UInt8) (r : List UInt8) (q : Nat) (hq : a.toNat < 32 ∨ 126 < a.toNat ∨ a.toNat = q) (h92 : a.toNat ≠ 92) : charR (a :: r) q = (0, 0) := by
  unfold charR
  rw [charK_none a r q hq]
  simp only
  rw [if_neg]
  rintro ⟨_, h⟩
  exact h (gap_none a r h92)
theorem charR_nil (q : Nat) : charR [] q = (0, 0) := by
  unfold charR charK
  simp [gapK]

set_option maxRecDepth 100000 in
set_option maxHeartbeats 8000000 in
theorem rchar_plain (s : ByteArray) (hs : s.size ≤ 100000) (at_ : Nat) (ha : at_ < s.size) (q : UInt8) (hq : q.toNat ≠ 92) (h92 : s[at_].toNat ≠ 92) (w : World) :
    Calls Tryd.prog 82 #[.string s, .int .i64 at_, .int .u8 q.toNat] w fun e w' => e = .returned (chRV (charR (s.data.toList.drop at_) q.toNat)) ∧ Below w.heap.size w w' := by
  have hd := drop_cons s at_ ha
  rw [hd]
  obtain ⟨a, hae⟩ : ∃ a, s[at_] = a := ⟨_, rfl⟩
  rw [hae] at h92 ⊢
  obtain ⟨n, hn⟩ : ∃ n, a.toNat = n := ⟨_, rfl⟩
  have hby : n ≤ 255 := by have := UInt8.toNat_lt a; omega
  have g0 : decide ((s.size : Int) ≤ (at_ : Int)) = false := decide_eq_false (by omega)
  have g0b : decide (s.size ≤ at_) = false := decide_eq_false (by omega)
  obtain ⟨R, hR⟩ : ∃ R, charR (a :: s.data.toList.drop (at_ + 1)) q.toNat = R := ⟨_, rfl⟩
  rw [hR]
  by_cases h1 : a.toNat < 32 ∨ 126 < a.toNat ∨ a.toNat = q.toNat
  · have Hr := Lib.hid (hR.symm.trans (charR_none a _ q.toNat h1 h92))
    rw [hn] at h1
    have hc : decide ((n : Int) < 32) = true ∨ (decide ((n : Int) < 32) = false ∧ decide ((126 : Int) < (n : Int)) = true) ∨ (decide ((n : Int) < 32) = false ∧ decide ((126 : Int) < (n : Int)) = false ∧ ((n : Int) == (q.toNat : Int)) = true) := by
      by_cases x1 : n < 32
      · exact .inl (decide_eq_true (by omega))
      · by_cases x2 : 126 < n
        · exact .inr (.inl ⟨decide_eq_false (by omega), decide_eq_true (by omega)⟩)
        · exact .inr (.inr ⟨decide_eq_false (by omega), decide_eq_false (by omega), by rw [beq_iff_eq]; omega⟩)
    clear h1 hd hR h92 hq
    rcases hc with d1 | ⟨d1, d2⟩ | ⟨d1, d2, d3⟩
    all_goals
      go_enter Tryd.func82, Tryd.ntmps82
      go_wp2
      go_ret2
      exact ⟨by rw [Hr.out]; rfl, Below.refl _ _⟩
  · have Hr := Lib.hid (hR.symm.trans (charR_plain a _ q.toNat h92 h1))
    rw [hn] at h1 h92 Hr
    have d1 : decide ((n : Int) < 32) = false := decide_eq_false (by omega)
    have d2 : decide ((126 : Int) < (n : Int)) = false := decide_eq_false (by omega)
    have d3 : ((n : Int) == (q.toNat : Int)) = false := by rw [beq_eq_false_iff_ne]; omega
    have d4 : ((n : Int) != 92) = true := by rw [bne_iff_ne]; omega
    clear h1 hd hR h92 hq
    go_enter Tryd.func82, Tryd.ntmps82
    go_wp2
    go_ret2
    exact ⟨by rw [Hr.out]; rfl, Below.refl _ _⟩
set_option maxRecDepth 100000 in
set_option maxHeartbeats 8000000 in
theorem rchar_nil (s : ByteArray) (hs : s.size ≤ 100000) (at_ : Nat) (ha : s.size ≤ at_) (h2 : at_ ≤ 1000000) (q : UInt8) (w : World) :
    Calls Tryd.prog 82 #[.string s, .int .i64 at_, .int .u8 q.toNat] w fun e w' => e = .returned (chRV (charR (s.data.toList.drop at_) q.toNat)) ∧ Below w.heap.size w w' := by
  have hd : s.data.toList.drop at_ = [] := List.drop_eq_nil_of_le ha
  rw [hd, charR_nil]
  have g0 : decide ((s.size : Int) ≤ (at_ : Int)) = true := decide_eq_true (by omega)
  have g0b : decide (s.size ≤ at_) = true := decide_eq_true (by omega)
  clear hd
  go_enter Tryd.func82, Tryd.ntmps82
  go_wp2
  go_ret2
  exact ⟨rfl, Below.refl _ _⟩

theorem charK_esc (q : Nat) (hq : q ≠ 92) (b : UInt8) (r : List UInt8) : charK (92 :: b :: r) q =
    if b.toNat = 110 then some (10, 2) else if b.toNat = 116 then some (9, 2)
        else if b.toNat = 92 ∨ b.toNat = 39 ∨ b.toNat = 34 then some (b.toNat, 2)
        else if b.toNat = 120 then
          (if spanB hexN r = 0 then none else match wholeK 16 (r.take (spanB hexN r)) with
            | none => none
            | some x => if 255 < x then none else some (x, 2 + spanB hexN r))
        else (if spanB digN (b :: r) = 0 then none else match wholeK 10 ((b :: r).take (spanB digN (b :: r))) with
            | none => none
            | some x => if 255 < x then none else some (x, 1 + spanB digN (b :: r))) := char_esc q hq b r
theorem gap_esc (b : UInt8) (r : List UInt8) (h : b.toNat ≠ 38) (h2 : blankN b.toNat = false) : gapK (92 :: b :: r) = 0 := gap_none2 b r h h2
theorem dig_noblank (n : Nat) (h : digN n = true) : n ≠ 38 ∧ blankN n = false ∧ n ≠ 110 ∧ n ≠ 116 ∧ n ≠ 92 ∧ n ≠ 39 ∧ n ≠ 34 ∧ n ≠ 120 := by
  simp [digN] at h
  refine ⟨by omega, ?_, by omega, by omega, by omega, by omega, by omega, by omega⟩
  have : ∀ m, m < 256 → (48 ≤ m ∧ m ≤ 57) → blankN m = false := by decide +kernel
  exact this n (by omega) h
/-- The five kinds of an escape. -/
theorem esc_one (q : Nat) (hq : q ≠ 92) (b : UInt8) (r : List UInt8) : (b.toNat = 110 → charR (92 :: b :: r) q = (10, 2)) ∧ (b.toNat = 116 → charR (92 :: b :: r) q = (9, 2)) ∧ (b.toNat = 92 ∨ b.toNat = 39 ∨ b.toNat = 34 → charR (92 :: b :: r) q = ((b.toNat : Int), 2)) := by
  unfold charR
  rw [charK_esc q hq b r]
  refine ⟨fun h => by rw [if_pos h]; rfl, fun h => by rw [if_neg (by omega), if_pos h]; rfl, fun h => by rw [if_neg (by omega), if_neg (by omega), if_pos h]⟩
theorem esc_dig (q : Nat) (hq : q ≠ 92) (b : UInt8) (r : List UInt8) (h : digN b.toNat = true) : charR (92 :: b :: r) q = match numGo 10 (digP 10) (b :: r) 0 0 with
    | none => (0, 0)
    | some (x, n) => if 255 < x then (0, 0) else ((x : Int), n + 1) := by
  obtain ⟨h1, h2, h3, h4, h5, h6, h7, h8⟩ := dig_noblank _ h
  have hz : spanB digN (b :: r) ≠ 0 := Nat.pos_iff_ne_zero.1 (spanP_pos _ _ _ h)
  unfold charR
  rw [charK_esc q hq b r, if_neg h3, if_neg h4, if_neg (by omega), if_neg h8, if_neg hz, num_dig 10, show digP 10 = digN from rfl, gap_esc b r h1 h2]
  cases wholeK 10 ((b :: r).take (spanB digN (b :: r))) with
  | none => simp
  | some x =>
    simp only [Option.map_some]
    by_cases g : 255 < x
    · rw [if_pos g, if_pos g]; simp
    · rw [if_neg g, if_neg g]; simp only [Prod.mk.injEq, true_and]; omega
theorem esc_hex (q : Nat) (hq : q ≠ 92) (b : UInt8) (r : List UInt8) (h : b.toNat = 120) : charR (92 :: b :: r) q = match numGo 16 (digP 16) r 0 0 with
    | none => (0, 0)
    | some (x, n) => if n = 0 then (0, 0) else if 255 < x then (0, 0) else ((x : Int), n + 2) := by
  unfold charR
  rw [charK_esc q hq b r, if_neg (by omega), if_neg (by omega), if_neg (by omega), if_pos h, num_dig 16, show digP 16 = hexN from rfl, gap_esc b r (by omega) (by rw [h]; rfl)]
  by_cases hz : spanB hexN r = 0
  · rw [if_pos hz, hz]
    simp [wholeK, wholeGo]
  · rw [if_neg hz]
    cases wholeK 16 (r.take (spanB hexN r)) with
    | none => simp
    | some x =>
      simp only [Option.map_some]
      rw [if_neg hz]
      by_cases g : 255 < x
      · rw [if_pos g, if_pos g]; simp
      · rw [if_neg g, if_neg g]; simp only [Prod.mk.injEq, true_and]; omega
theorem esc_rest (q : Nat) (hq : q ≠ 92) (b : UInt8) (r : List UInt8) (h : b.toNat ≠ 110 ∧ b.toNat ≠ 116 ∧ ¬ (b.toNat = 92 ∨ b.toNat = 39 ∨ b.toNat = 34) ∧ digN b.toNat = false ∧ b.toNat ≠ 120) :
    charR (92 :: b :: r) q = if q = 34 ∧ gapK (92 :: b :: r) ≠ 0 then (-1, gapK (92 :: b :: r)) else (0, 0) := by
  obtain ⟨h1, h2, h3, h4, h5⟩ := h
  unfold charR
  rw [charK_esc q hq b r, if_neg h1, if_neg h2, if_neg h3, if_neg h5, if_pos (spanP_zero _ _ _ h4)]

set_option maxRecDepth 100000 in
set_option maxHeartbeats 8000000 in
theorem rchar_esc0 (s : ByteArray) (hs : s.size ≤ 100000) (at_ : Nat) (ha : at_ < s.size) (h2 : ¬ at_ + 1 < s.size) (q : UInt8) (hq : q.toNat ≠ 92) (h92 : s[at_] = 92) (w : World) :
    Calls Tryd.prog 82 #[.string s, .int .i64 at_, .int .u8 q.toNat] w fun e w' => e = .returned (chRV (charR (s.data.toList.drop at_) q.toNat)) ∧ Below w.heap.size w w' := by
  have hd := drop_cons s at_ ha
  rw [hd, List.drop_eq_nil_of_le (by show s.size ≤ at_ + 1; omega), h92]
  have hR : charR [92] q.toNat = (0, 0) := by
    have hk : charK [92] q.toNat = none := by
      simp only [charK]
      split
      · rfl
      · rw [if_neg (by decide)]
    unfold charR
    rw [hk]
    simp [gapK]
  rw [hR]
  have g0 : decide ((s.size : Int) ≤ (at_ : Int)) = false := decide_eq_false (by omega)
  have g0b : decide (s.size ≤ at_) = false := decide_eq_false (by omega)
  have g1 : decide ((s.size : Int) ≤ (at_ : Int) + 1) = true := decide_eq_true (by omega)
  have d3 : ((92 : Int) == (q.toNat : Int)) = false := by rw [beq_eq_false_iff_ne]; omega
  have e0 : (s[at_].toNat : Int) = 92 := by rw [h92]; rfl
  have d1 : decide ((s[at_].toNat : Int) < 32) = false := by rw [e0]; rfl
  have d2 : decide ((126 : Int) < (s[at_].toNat : Int)) = false := by rw [e0]; rfl
  have d4 : ((s[at_].toNat : Int) != 92) = false := by rw [e0]; rfl
  have d5 : ((s[at_].toNat : Int) == (q.toNat : Int)) = false := by rw [e0]; exact d3
  clear hd hR e0 h92 d3
  go_enter Tryd.func82, Tryd.ntmps82
  go_wp2
  go_ret2
  exact ⟨rfl, Below.refl _ _⟩
set_option maxRecDepth 100000 in
set_option maxHeartbeats 8000000 in
theorem rchar_esc (s : ByteArray) (hs : s.size ≤ 100000) (at_ : Nat) (ha : at_ < s.size) (h2 : at_ + 1 < s.size) (q : UInt8) (hq : q.toNat ≠ 92) (h92 : s[at_] = 92) (w : World) :
    Calls Tryd.prog 82 #[.string s, .int .i64 at_, .int .u8 q.toNat] w fun e w' => e = .returned (chRV (charR (s.data.toList.drop at_) q.toNat)) ∧ Below w.heap.size w w' := by
  have hsl : s.data.toList.length = s.size := rfl
  have hd := drop_cons s at_ ha
  have hd2 := drop_cons s (at_ + 1) h2
  obtain ⟨b, hbe⟩ : ∃ b, s[at_ + 1] = b := ⟨_, rfl⟩
  rw [hbe] at hd2
  rw [h92, hd2] at hd
  rw [hd]
  obtain ⟨r, hr⟩ : ∃ r, s.data.toList.drop (at_ + 1 + 1) = r := ⟨_, rfl⟩
  rw [hr] at hd hd2 ⊢
  obtain ⟨R, hR⟩ : ∃ R, charR (92 :: b :: r) q.toNat = R := ⟨_, rfl⟩
  rw [hR]
  have g0 : decide ((s.size : Int) ≤ (at_ : Int)) = false := decide_eq_false (by omega)
  have g0b : decide (s.size ≤ at_) = false := decide_eq_false (by omega)
  have g1 : decide ((s.size : Int) ≤ (at_ : Int) + 1) = false := decide_eq_false (by omega)
  have e0 : (s[at_].toNat : Int) = 92 := by rw [h92]; rfl
  have d1 : decide ((s[at_].toNat : Int) < 32) = false := by rw [e0]; rfl
  have d2 : decide ((126 : Int) < (s[at_].toNat : Int)) = false := by rw [e0]; rfl
  have d4 : ((s[at_].toNat : Int) != 92) = false := by rw [e0]; rfl
  have d5 : ((s[at_].toNat : Int) == (q.toNat : Int)) = false := by rw [e0, beq_eq_false_iff_ne]; omega
  have hby : b.toNat ≤ 255 := by have := UInt8.toNat_lt b; omega
  obtain ⟨o1, o2, o3⟩ := esc_one q.toNat hq b r
  clear e0 h92
  by_cases c1 : b.toNat = 110
  · have Hr := Lib.hid (hR.symm.trans (o1 c1))
    have e1 : ((b.toNat : Int) == 110) = true := by rw [beq_iff_eq]; omega
    clear hd hd2 hr hR o1 o2 o3 hq c1
    go_enter Tryd.func82, Tryd.ntmps82
    go_wp2
    go_ret2
    exact ⟨by rw [Hr.out]; rfl, Below.refl _ _⟩
  · have e1 : ((b.toNat : Int) == 110) = false := by rw [beq_eq_false_iff_ne]; omega
    by_cases c2 : b.toNat = 116
    · have Hr := Lib.hid (hR.symm.trans (o2 c2))
      have e2 : ((b.toNat : Int) == 116) = true := by rw [beq_iff_eq]; omega
      clear hd hd2 hr hR o1 o2 o3 hq c1 c2
      go_enter Tryd.func82, Tryd.ntmps82
      go_wp2
      go_ret2
      exact ⟨by rw [Hr.out]; rfl, Below.refl _ _⟩
    · have e2 : ((b.toNat : Int) == 116) = false := by rw [beq_eq_false_iff_ne]; omega
      by_cases c3 : b.toNat = 92 ∨ b.toNat = 39 ∨ b.toNat = 34
      · have Hr := Lib.hid (hR.symm.trans (o3 c3))
        have hc : ((b.toNat : Int) == 92) = true ∨ (((b.toNat : Int) == 92) = false ∧ ((b.toNat : Int) == 39) = true) ∨ (((b.toNat : Int) == 92) = false ∧ ((b.toNat : Int) == 39) = false ∧ ((b.toNat : Int) == 34) = true) := by
          rcases c3 with h | h | h
          · exact .inl (by rw [h]; rfl)
          · exact .inr (.inl (by rw [h]; exact ⟨rfl, rfl⟩))
          · exact .inr (.inr (by rw [h]; exact ⟨rfl, rfl, rfl⟩))
        clear hd hd2 hr hR o1 o2 o3 hq c1 c2 c3
        rcases hc with f1 | ⟨f1, f2⟩ | ⟨f1, f2, f3⟩
        all_goals
          go_enter Tryd.func82, Tryd.ntmps82
          go_wp2
          go_ret2
          exact ⟨by rw [Hr.out]; rfl, Below.refl _ _⟩
      · have f1 : ((b.toNat : Int) == 92) = false := by rw [beq_eq_false_iff_ne]; omega
        have f2 : ((b.toNat : Int) == 39) = false := by rw [beq_eq_false_iff_ne]; omega
        have f3 : ((b.toNat : Int) == 34) = false := by rw [beq_eq_false_iff_ne]; omega
        clear o1 o2 o3
        cases c4 : digN b.toNat with
        | true =>
          have hrr := hR.symm.trans (esc_dig q.toNat hq b r c4)
          have Hdg := Lib.hid (fun w => bool_known rdigit_any b true c4 w)
          obtain ⟨o, ho⟩ : ∃ o, numGo 10 (digP 10) (b :: r) 0 0 = o := ⟨_, rfl⟩
          rw [ho] at hrr
          have Hnum := Lib.hid (fun w => number_known s hs (at_ + 1) (by omega) 10 (.inl rfl) o (by rw [hd2]; exact ho) w)
          cases o with
          | none =>
            have Hr := Lib.hid hrr
            rw [numV_no] at Hnum
            clear hd hd2 hr hR hq c1 c2 c3 c4 hrr ho
            go_enter Tryd.func82, Tryd.ntmps82
            go_wp2_with (first | (go_at_call 57; refine (Hdg.out _).mono ?_; rintro e w1 ⟨rfl, b1⟩; have l1 := chain (Below.refl _ w) b1; clear b1) | (go_at_call 59; refine (Hnum.out _).mono ?_; rintro e w2 ⟨rfl, b2⟩; have l2 := chain l1 b2; clear b2))
            go_ret2
            exact ⟨by rw [Hr.out]; rfl, l2⟩
          | some p =>
            obtain ⟨x, n⟩ := p
            simp only at hrr
            have hnn : n ≤ s.size := by
              rw [num_dig 10] at ho
              cases hw : wholeK 10 ((b :: r).take (spanB (digP 10) (b :: r))) with
              | none => rw [hw] at ho; cases ho
              | some y =>
                rw [hw] at ho
                simp only [Option.map_some, Option.some.injEq, Prod.mk.injEq] at ho
                have h3 := spanB_le (digP 10) (b :: r)
                rw [← hd2, List.length_drop, hsl, hd2] at h3
                omega
            rw [numV_yes] at Hnum
            by_cases g255 : 255 < x
            · have Hr := Lib.hid (hrr.trans (if_pos g255))
              have k1 : decide ((255 : Int) < (x : Int)) = true := decide_eq_true (by omega)
              clear hd hd2 hr hR hq c1 c2 c3 c4 hrr ho g255
              go_enter Tryd.func82, Tryd.ntmps82
              go_wp2_with (first | (go_at_call 57; refine (Hdg.out _).mono ?_; rintro e w1 ⟨rfl, b1⟩; have l1 := chain (Below.refl _ w) b1; clear b1) | (go_at_call 59; refine (Hnum.out _).mono ?_; rintro e w2 ⟨rfl, b2⟩; have l2 := chain l1 b2; clear b2))
              go_ret2
              exact ⟨by rw [Hr.out]; rfl, l2⟩
            · have Hr := Lib.hid (hrr.trans (if_neg g255))
              have k1 : decide ((255 : Int) < (x : Int)) = false := decide_eq_false (by omega)
              clear hd hd2 hr hR hq c1 c2 c3 c4 hrr ho g255
              go_enter Tryd.func82, Tryd.ntmps82
              go_wp2_with (first | (go_at_call 57; refine (Hdg.out _).mono ?_; rintro e w1 ⟨rfl, b1⟩; have l1 := chain (Below.refl _ w) b1; clear b1) | (go_at_call 59; refine (Hnum.out _).mono ?_; rintro e w2 ⟨rfl, b2⟩; have l2 := chain l1 b2; clear b2))
              go_ret2
              exact ⟨by rw [Hr.out]; rfl, l2⟩
        | false =>
          have Hdg := Lib.hid (fun w => bool_known rdigit_any b false c4 w)
          by_cases c5 : b.toNat = 120
          · have e5 : ((b.toNat : Int) == 120) = true := by rw [beq_iff_eq]; omega
            have hrr := hR.symm.trans (esc_hex q.toNat hq b r c5)
            obtain ⟨o, ho⟩ : ∃ o, numGo 16 (digP 16) r 0 0 = o := ⟨_, rfl⟩
            rw [ho] at hrr
            have Hnum := Lib.hid (fun w => number_known s hs (at_ + 2) (by omega) 16 (.inr rfl) o (by rw [← hr] at ho; exact ho) w)
            cases o with
            | none =>
              have Hr := Lib.hid hrr
              rw [numV_no] at Hnum
              clear hd hd2 hr hR hq c1 c2 c3 c4 hrr ho c5
              go_enter Tryd.func82, Tryd.ntmps82
              go_wp2_with (first | (go_at_call 57; refine (Hdg.out _).mono ?_; rintro e w1 ⟨rfl, b1⟩; have l1 := chain (Below.refl _ w) b1; clear b1) | (go_at_call 59; refine (Hnum.out _).mono ?_; rintro e w2 ⟨rfl, b2⟩; have l2 := chain l1 b2; clear b2))
              go_ret2
              exact ⟨by rw [Hr.out]; rfl, l2⟩
            | some p =>
              obtain ⟨x, n⟩ := p
              simp only at hrr
              have hnn : n ≤ s.size := by
                rw [num_dig 16] at ho
                cases hw : wholeK 16 (r.take (spanB (digP 16) r)) with
                | none => rw [hw] at ho; cases ho
                | some y =>
                  rw [hw] at ho
                  simp only [Option.map_some, Option.some.injEq, Prod.mk.injEq] at ho
                  have h3 := spanB_le (digP 16) r
                  rw [← hr, List.length_drop, hsl, hr] at h3
                  omega
              rw [numV_yes] at Hnum
              by_cases gn : n = 0
              · have Hr := Lib.hid (hrr.trans (if_pos gn))
                have k0 : ((n : Int) == 0) = true := by rw [beq_iff_eq]; omega
                clear hd hd2 hr hR hq c1 c2 c3 c4 hrr ho gn c5
                go_enter Tryd.func82, Tryd.ntmps82
                go_wp2_with (first | (go_at_call 57; refine (Hdg.out _).mono ?_; rintro e w1 ⟨rfl, b1⟩; have l1 := chain (Below.refl _ w) b1; clear b1) | (go_at_call 59; refine (Hnum.out _).mono ?_; rintro e w2 ⟨rfl, b2⟩; have l2 := chain l1 b2; clear b2))
                go_ret2
                exact ⟨by rw [Hr.out]; rfl, l2⟩
              · have hrr2 := hrr.trans (if_neg gn)
                have k0 : ((n : Int) == 0) = false := by rw [beq_eq_false_iff_ne]; omega
                by_cases g255 : 255 < x
                · have Hr := Lib.hid (hrr2.trans (if_pos g255))
                  have k1 : decide ((255 : Int) < (x : Int)) = true := decide_eq_true (by omega)
                  clear hd hd2 hr hR hq c1 c2 c3 c4 hrr hrr2 ho g255 c5
                  go_enter Tryd.func82, Tryd.ntmps82
                  go_wp2_with (first | (go_at_call 57; refine (Hdg.out _).mono ?_; rintro e w1 ⟨rfl, b1⟩; have l1 := chain (Below.refl _ w) b1; clear b1) | (go_at_call 59; refine (Hnum.out _).mono ?_; rintro e w2 ⟨rfl, b2⟩; have l2 := chain l1 b2; clear b2))
                  go_ret2
                  exact ⟨by rw [Hr.out]; rfl, l2⟩
                · have Hr := Lib.hid (hrr2.trans (if_neg g255))
                  have k1 : decide ((255 : Int) < (x : Int)) = false := decide_eq_false (by omega)
                  clear hd hd2 hr hR hq c1 c2 c3 c4 hrr hrr2 ho g255 c5
                  go_enter Tryd.func82, Tryd.ntmps82
                  go_wp2_with (first | (go_at_call 57; refine (Hdg.out _).mono ?_; rintro e w1 ⟨rfl, b1⟩; have l1 := chain (Below.refl _ w) b1; clear b1) | (go_at_call 59; refine (Hnum.out _).mono ?_; rintro e w2 ⟨rfl, b2⟩; have l2 := chain l1 b2; clear b2))
                  go_ret2
                  exact ⟨by rw [Hr.out]; rfl, l2⟩
          · have e5 : ((b.toNat : Int) == 120) = false := by rw [beq_eq_false_iff_ne]; omega
            have hrr := hR.symm.trans (esc_rest q.toNat hq b r ⟨c1, c2, c3, c4, c5⟩)
            by_cases q34 : q.toNat = 34
            · have e7 : ((q.toNat : Int) == 34) = true := by rw [beq_iff_eq]; omega
              by_cases c6 : b.toNat = 38
              · have e8 : ((b.toNat : Int) == 38) = true := by rw [beq_iff_eq]; omega
                have hg : gapK (92 :: b :: r) = 2 := by simp only [gapK]; rw [if_pos (by decide), if_pos c6]
                have Hr := Lib.hid (hrr.trans (by rw [hg, if_pos ⟨q34, by decide⟩]))
                clear hd hd2 hr hR hq c1 c2 c3 c4 c5 c6 hrr hg q34
                go_enter Tryd.func82, Tryd.ntmps82
                go_wp2_with (go_at_call 57; refine (Hdg.out _).mono ?_; rintro e w1 ⟨rfl, b1⟩; have l1 := chain (Below.refl _ w) b1; clear b1)
                go_ret2
                exact ⟨by rw [Hr.out]; rfl, l1⟩
              · have e8 : ((b.toNat : Int) == 38) = false := by rw [beq_eq_false_iff_ne]; omega
                cases c7 : blankN b.toNat with
                | false =>
                  have Hbl := Lib.hid (fun w => blank_known b false c7 w)
                  have Hr := Lib.hid (hrr.trans (if_neg (fun h => h.2 (gap_esc b r c6 c7))))
                  clear hd hd2 hr hR hq c1 c2 c3 c4 c5 c6 c7 hrr q34
                  go_enter Tryd.func82, Tryd.ntmps82
                  go_wp2_with (first | (go_at_call 57; refine (Hdg.out _).mono ?_; rintro e w1 ⟨rfl, b1⟩; have l1 := chain (Below.refl _ w) b1; clear b1) | (go_at_call 51; refine (Hbl.out _).mono ?_; rintro e w2 ⟨rfl, b2⟩; have l2 := chain l1 b2; clear b2))
                  go_ret2
                  exact ⟨by rw [Hr.out]; rfl, l2⟩
                | true =>
                  have Hbl := Lib.hid (fun w => blank_known b true c7 w)
                  have hsp0 := spanP_pos blankN b r c7
                  have hgap : gapK (92 :: b :: r) = match (b :: r).drop (spanB blankN (b :: r)) with | c :: _ => if c.toNat = 92 then spanB blankN (b :: r) + 2 else 0 | [] => 0 := by
                    simp only [gapK]
                    rw [if_pos (by decide), if_neg c6, if_neg (by omega)]
                    rfl
                  rw [← hd2] at hsp0 hgap hrr
                  have hrr : R = if gapK (92 :: s.data.toList.drop (at_ + 1)) ≠ 0 then (-1, gapK (92 :: s.data.toList.drop (at_ + 1))) else (0, 0) := by
                    rw [hrr]
                    by_cases g : gapK (92 :: s.data.toList.drop (at_ + 1)) ≠ 0
                    · rw [if_pos ⟨q34, g⟩, if_pos g]
                    · rw [if_neg (fun h => g h.2), if_neg g]
                  have Hrr := Lib.hid hrr
                  have Hgap := Lib.hid hgap
                  have Hsp0 := Lib.hid hsp0
                  clear hd hd2 hr hR hq c1 c2 c3 c4 c5 c6 c7 hrr q34 hgap hsp0
                  go_enter Tryd.func82, Tryd.ntmps82
                  go_wp2_with (first | (go_at_call 57; refine (Hdg.out _).mono ?_; rintro e w1 ⟨rfl, b1⟩; have l1 := chain (Below.refl _ w) b1; clear b1) | (go_at_call 51; refine (Hbl.out _).mono ?_; rintro e w2 ⟨rfl, b2⟩; have l2 := chain l1 b2; clear b2))
                  go_loopw [15] (fun n wr => ∃ m : Nat, n = .int .i64 m ∧ 1 ≤ m ∧ at_ + m ≤ s.size ∧ Hid (spanB blankN (s.data.toList.drop (at_ + 1)) + 1 = m + spanB blankN (s.data.toList.drop (at_ + m))) ∧ Below w.heap.size w wr) (fun n _ => s.size - (intOf n).toNat)
                  case atStart => exact ⟨1, rfl, Nat.le_refl _, by omega, Lib.hid (by omega), l2⟩
                  case round =>
                    obtain ⟨m, rfl, hm1, hm2, Hm, hB⟩ := hrel
                    by_cases hlt : at_ + m < s.size
                    · have x1 : decide ((at_ : Int) + (m : Int) < (s.size : Int)) = true := by simp; omega
                      have x2 : decide (at_ + m < s.size) = true := by simp; omega
                      have hdm := drop_cons s (at_ + m) hlt
                      obtain ⟨c, hce⟩ : ∃ c, s[at_ + m] = c := ⟨_, rfl⟩
                      rw [hce] at hdm
                      cases hcb : blankN c.toNat with
                      | true =>
                        have Hcb := Lib.hid (fun w => blank_known c true hcb w)
                        have Hn := Lib.hid (show spanB blankN (s.data.toList.drop (at_ + 1)) + 1 = (m + 1) + spanB blankN (s.data.toList.drop (at_ + (m + 1))) by
                          rw [Hm.out, hdm, spanB, if_pos hcb, show at_ + (m + 1) = at_ + m + 1 by omega]; omega)
                        clear hdm hcb
                        go_wp2_with (go_at_call 51; refine (Hcb.out _).mono ?_; rintro e w4 ⟨rfl, b4⟩; have l4 := chain hB b4; clear b4)
                        go_roundw
                        case rel => exact ⟨m + 1, by go_num, by omega, by omega, Hn, l4⟩
                        case measure => simp [intOf]; omega
                      | false =>
                        have Hcb := Lib.hid (fun w => blank_known c false hcb w)
                        have hsp : spanB blankN (s.data.toList.drop (at_ + 1)) + 1 = m := by rw [Hm.out, hdm, spanP_zero _ _ _ hcb]; rfl
                        have hdr : (s.data.toList.drop (at_ + 1)).drop (spanB blankN (s.data.toList.drop (at_ + 1))) = c :: s.data.toList.drop (at_ + m + 1) := by
                          rw [List.drop_drop, show at_ + 1 + spanB blankN (s.data.toList.drop (at_ + 1)) = at_ + m by omega, hdm]
                        have hgp := Hgap.out
                        rw [hdr] at hgp
                        simp only at hgp
                        by_cases h9 : c.toNat = 92
                        · have x3 : ((c.toNat : Int) == 92) = true := by rw [beq_iff_eq]; omega
                          rw [if_pos h9] at hgp
                          have Hr := Lib.hid (show R = (-1, m + 1) by rw [Hrr.out, hgp, if_pos (by omega)]; simp; omega)
                          clear hdm hcb hsp hdr hgp h9
                          go_wp2_with (go_at_call 51; refine (Hcb.out _).mono ?_; rintro e w4 ⟨rfl, b4⟩; have l4 := chain hB b4; clear b4)
                          go_ret2
                          exact ⟨by rw [Hr.out]; rfl, l4⟩
                        · have x3 : ((c.toNat : Int) == 92) = false := by rw [beq_eq_false_iff_ne]; omega
                          rw [if_neg h9] at hgp
                          have Hr := Lib.hid (show R = (0, 0) by rw [Hrr.out, hgp, if_neg (by decide)])
                          clear hdm hcb hsp hdr hgp h9
                          go_wp2_with (go_at_call 51; refine (Hcb.out _).mono ?_; rintro e w4 ⟨rfl, b4⟩; have l4 := chain hB b4; clear b4)
                          go_ret2
                          exact ⟨by rw [Hr.out]; rfl, l4⟩
                    · have x1 : decide ((at_ : Int) + (m : Int) < (s.size : Int)) = false := by simp; omega
                      have x2 : decide (at_ + m < s.size) = false := by simp; omega
                      have hnil : s.data.toList.drop (at_ + m) = [] := List.drop_eq_nil_of_le (by omega)
                      have hsp : spanB blankN (s.data.toList.drop (at_ + 1)) + 1 = m := by rw [Hm.out, hnil]; rfl
                      have hgp := Hgap.out
                      rw [List.drop_drop, show at_ + 1 + spanB blankN (s.data.toList.drop (at_ + 1)) = at_ + m by omega, hnil] at hgp
                      simp only at hgp
                      have Hr := Lib.hid (show R = (0, 0) by rw [Hrr.out, hgp, if_neg (by decide)])
                      clear hnil hsp hgp
                      go_wp2
                      go_ret2
                      exact ⟨by rw [Hr.out]; rfl, hB⟩
            · have e7 : ((q.toNat : Int) == 34) = false := by rw [beq_eq_false_iff_ne]; omega
              have Hr := Lib.hid (hrr.trans (if_neg (fun h => q34 h.1)))
              clear hd hd2 hr hR hq c1 c2 c3 c4 c5 hrr q34
              go_enter Tryd.func82, Tryd.ntmps82
              go_wp2_with (go_at_call 57; refine (Hdg.out _).mono ?_; rintro e w1 ⟨rfl, b1⟩; have l1 := chain (Below.refl _ w) b1; clear b1)
              go_ret2
              exact ⟨by rw [Hr.out]; rfl, l1⟩
theorem rchar_any (s : ByteArray) (hs : s.size ≤ 100000) (at_ : Nat) (ha : at_ ≤ 1000000) (q : UInt8) (hq : q.toNat ≠ 92) (w : World) :
    Calls Tryd.prog 82 #[.string s, .int .i64 at_, .int .u8 q.toNat] w fun e w' => e = .returned (chRV (charR (s.data.toList.drop at_) q.toNat)) ∧ Below w.heap.size w w' := by
  by_cases h1 : at_ < s.size
  · by_cases h92 : s[at_].toNat = 92
    · have h92' : s[at_] = 92 := UInt8.toNat_inj.1 h92
      by_cases h2 : at_ + 1 < s.size
      · exact rchar_esc s hs at_ h1 h2 q hq h92' w
      · exact rchar_esc0 s hs at_ h1 h2 q hq h92' w
    · exact rchar_plain s hs at_ h1 q hq h92 w
  · exact rchar_nil s hs at_ (by omega) ha q w
end Go.Proofs.YtiflklmjmdhfoaaDoor

namespace Go.Proofs.YtiflklmjmdhfoaaDoor
open Go.RowKit Go.Shelf
set_option linter.unusedSimpArgs false
set_option linter.unusedVariables false

def fdR : Fd → Value
  | .tok t n => fdV (.tok t n)
  | _ => fdV .no
theorem char_known (s : ByteArray) (hs : s.size ≤ 100000) (at_ : Nat) (ha : at_ ≤ 1000000) (q : UInt8) (hq : q.toNat ≠ 92) (o : Int × Nat) (h : charR (s.data.toList.drop at_) q.toNat = o) (w : World) :
    Calls Tryd.prog 82 #[.string s, .int .i64 at_, .int .u8 q.toNat] w fun e w' => e = .returned (.tuple #[.int .i64 o.1, .int .i64 o.2]) ∧ Below w.heap.size w w' := by
  rw [← h]; exact rchar_any s hs at_ ha q hq w
theorem gap_char (l : List UInt8) (h : gapK l ≠ 0) : charK l 34 = none := by
  cases l with
  | nil => simp [gapK] at h
  | cons a r =>
    by_cases ha : a.toNat = 92
    · cases r with
      | nil =>
        simp only [gapK] at h
        rw [if_pos ha] at h; exact absurd rfl h
      | cons b r =>
        have ha' : a = 92 := UInt8.toNat_inj.1 ha
        subst ha'
        have hb : b.toNat = 38 ∨ blankN b.toNat = true := by
          by_cases c1 : b.toNat = 38
          · exact .inl c1
          · cases c2 : blankN b.toNat with
            | true => exact .inr rfl
            | false => exact absurd (gap_esc b r c1 c2) h
        have hn : b.toNat ≠ 110 ∧ b.toNat ≠ 116 ∧ ¬ (b.toNat = 92 ∨ b.toNat = 39 ∨ b.toNat = 34) ∧ digN b.toNat = false ∧ b.toNat ≠ 120 := by
          have hk : ∀ n, n < 256 → (n = 38 ∨ blankN n = true) → n ≠ 110 ∧ n ≠ 116 ∧ ¬ (n = 92 ∨ n = 39 ∨ n = 34) ∧ digN n = false ∧ n ≠ 120 := by decide +kernel
          exact hk _ (UInt8.toNat_lt b) hb
        obtain ⟨h1, h2, h3, h4, h5⟩ := hn
        rw [charK_esc 34 (by decide) b r, if_neg h1, if_neg h2, if_neg h3, if_neg h5, if_pos (spanP_zero _ _ _ h4)]
    · exact absurd (gap_none a r ha) h
/-- One step of a string, by the document's character. -/
theorem text_step (f : Nat) (l b : List UInt8) (i k : Nat) (h : k < l.length) (h34 : l[k].toNat ≠ 34) :
    textGo (f + 1) (l.drop k) b i = (if (charR (l.drop k) 34).2 = 0 then .bad else if 0 ≤ (charR (l.drop k) 34).1 then textGo f (l.drop (k + (charR (l.drop k) 34).2)) (b ++ [UInt8.ofNat (charR (l.drop k) 34).1.toNat]) (i + (charR (l.drop k) 34).2) else textGo f (l.drop (k + (charR (l.drop k) 34).2)) b (i + (charR (l.drop k) 34).2)) ∧ (charR (l.drop k) 34).2 ≤ l.length - k ∧ (charR (l.drop k) 34).1 ≤ 255 := by
  rw [text_at f l b i k h, if_neg h34]
  by_cases hg : gapK (l.drop k) ≠ 0
  · have hc := gap_char _ hg
    have hR : charR (l.drop k) 34 = (-1, gapK (l.drop k)) := by unfold charR; rw [hc]; simp only; rw [if_pos ⟨by decide, hg⟩]
    have hl := ((gap_take (l.drop k) 0).2 hg).1
    rw [List.length_drop] at hl
    rw [if_pos hg, hR]
    refine ⟨?_, hl, by simp⟩
    simp only
    rw [if_neg hg, if_neg (by decide), List.drop_drop]
  · rw [if_neg hg]
    cases hc : charK (l.drop k) 34 with
    | none =>
      have hR : charR (l.drop k) 34 = (0, 0) := by unfold charR; rw [hc]; simp only; rw [if_neg (fun h => hg h.2)]
      rw [hR]
      exact ⟨by simp, by simp, by simp⟩
    | some p =>
      obtain ⟨c, n⟩ := p
      obtain ⟨⟨n1, n2⟩, n3, _⟩ := char_take _ 34 c n hc
      have hR : charR (l.drop k) 34 = ((c : Int), n) := by unfold charR; rw [hc]
      rw [List.length_drop] at n2
      rw [hR]
      refine ⟨?_, n2, by simp only; omega⟩
      simp only
      rw [if_neg (by omega), if_pos (by omega), List.drop_drop, Int.toNat_natCast]

set_option maxRecDepth 100000 in
set_option maxHeartbeats 8000000 in
theorem rquoted_char (s : ByteArray) (hs : s.size ≤ 100000) (at_ : Nat) (ha : at_ < s.size) (h39 : s[at_].toNat = 39) (w : World) :
    Calls Tryd.prog 60 #[.string s, .int .i64 at_] w fun e w' => e = .returned (fdR (charTK (s.data.toList.drop at_))) ∧ Below w.heap.size w w' := by
  have hsl : s.data.toList.length = s.size := rfl
  have hd := drop_cons s at_ ha
  obtain ⟨R, hR⟩ : ∃ R, charTK (s.data.toList.drop at_) = R := ⟨_, rfl⟩
  rw [hR]
  rw [hd] at hR
  simp only [charTK] at hR
  rw [if_pos h39] at hR
  have e1 : ((s[at_].toNat : Int) == 39) = true := by rw [beq_iff_eq]; omega
  cases hc : charK (s.data.toList.drop (at_ + 1)) 39 with
  | none =>
    have hch : charR (s.data.toList.drop (at_ + 1)) 39 = (0, 0) := by unfold charR; rw [hc]; simp only; rw [if_neg (fun h => absurd h.1 (by decide))]
    rw [hc] at hR
    have Hr := Lib.hid hR.symm
    have Hc := Lib.hid (fun w => char_known s hs (at_ + 1) (by omega) 39 (by decide) (0, 0) hch w)
    clear hd hR hc hch h39
    go_enter Tryd.func60, Tryd.ntmps60
    go_wp2_with (go_at_call 82; refine (Hc.out _).mono ?_; rintro e w1 ⟨rfl, b1⟩; have t1 : TokB w w1 := TokB.next (by first | assumption | exact TokB.start w) b1; clear b1; obtain ⟨⟨ka1, kb1, kc1, kd1, ke1, kf1, kg1⟩, fa1, fb1, fc1, fd1, fe1, ff1, fg1⟩ := t1.cells)
    exact bodyPost_ret (v := .tuple #[.agg #[.int .i64 0, .string ⟨#[]⟩, .int .i64 0, .int .i64 0, .int .i64 0, .int .i64 0, .bool false], .int .i64 0]) (by simp [results, Tryd.results60, go_sem, ka1, kb1, kc1, kd1, ke1, kf1, kg1]) rfl ⟨by rw [Hr.out]; rfl, t1.set7 _ _ _ _ _ _ _⟩
  | some p =>
    obtain ⟨c, n⟩ := p
    obtain ⟨⟨n1, n2⟩, n3, _⟩ := char_take _ 39 c n hc
    rw [List.length_drop, hsl] at n2
    have hch : charR (s.data.toList.drop (at_ + 1)) 39 = ((c : Int), n) := by unfold charR; rw [hc]
    rw [hc] at hR
    simp only at hR
    have Hc := Lib.hid (fun w => char_known s hs (at_ + 1) (by omega) 39 (by decide) ((c : Int), n) hch w)
    have e2 : ((n : Int) == 0) = false := by rw [beq_eq_false_iff_ne]; omega
    rw [List.drop_drop] at hR
    by_cases hlt : at_ + 1 + n < s.size
    · have hdn := drop_cons s (at_ + 1 + n) hlt
      rw [hdn] at hR
      simp only at hR
      have g1 : decide ((s.size : Int) ≤ (at_ : Int) + 1 + (n : Int)) = false := decide_eq_false (by omega)
      have g1b : decide (s.size ≤ at_ + 1 + n) = false := decide_eq_false (by omega)
      by_cases h9 : s[at_ + 1 + n].toNat = 39
      · rw [if_pos h9] at hR
        have e3 : ((s[at_ + 1 + n].toNat : Int) != 39) = false := by rw [bne_eq_false_iff_eq]; omega
        have Hr := Lib.hid hR.symm
        clear hd hR hc hch h39 hdn h9
        go_enter Tryd.func60, Tryd.ntmps60
        go_wp2_with (go_at_call 82; refine (Hc.out _).mono ?_; rintro e w1 ⟨rfl, b1⟩; have t1 : TokB w w1 := TokB.next (by first | assumption | exact TokB.start w) b1; clear b1; obtain ⟨⟨ka1, kb1, kc1, kd1, ke1, kf1, kg1⟩, fa1, fb1, fc1, fd1, fe1, ff1, fg1⟩ := t1.cells)
        exact bodyPost_ret (v := .tuple #[.agg #[.int .i64 6, .string ⟨#[]⟩, .int .i64 c, .int .i64 0, .int .i64 0, .int .i64 0, .bool false], .int .i64 ((n + 2 : Nat) : Int)]) (by simp [results, Tryd.results60, go_sem, ka1, kb1, kc1, kd1, ke1, kf1, kg1]) rfl ⟨by rw [Hr.out]; rfl, t1.set7 _ _ _ _ _ _ _⟩
      · rw [if_neg h9] at hR
        have e3 : ((s[at_ + 1 + n].toNat : Int) != 39) = true := by rw [bne_iff_ne]; omega
        have Hr := Lib.hid hR.symm
        clear hd hR hc hch h39 hdn h9
        go_enter Tryd.func60, Tryd.ntmps60
        go_wp2_with (go_at_call 82; refine (Hc.out _).mono ?_; rintro e w1 ⟨rfl, b1⟩; have t1 : TokB w w1 := TokB.next (by first | assumption | exact TokB.start w) b1; clear b1; obtain ⟨⟨ka1, kb1, kc1, kd1, ke1, kf1, kg1⟩, fa1, fb1, fc1, fd1, fe1, ff1, fg1⟩ := t1.cells)
        exact bodyPost_ret (v := .tuple #[.agg #[.int .i64 0, .string ⟨#[]⟩, .int .i64 0, .int .i64 0, .int .i64 0, .int .i64 0, .bool false], .int .i64 0]) (by simp [results, Tryd.results60, go_sem, ka1, kb1, kc1, kd1, ke1, kf1, kg1]) rfl ⟨by rw [Hr.out]; rfl, t1.set7 _ _ _ _ _ _ _⟩
    · have hnil : s.data.toList.drop (at_ + 1 + n) = [] := List.drop_eq_nil_of_le (by omega)
      rw [hnil] at hR
      simp only at hR
      have g1 : decide ((s.size : Int) ≤ (at_ : Int) + 1 + (n : Int)) = true := decide_eq_true (by omega)
      have g1b : decide (s.size ≤ at_ + 1 + n) = true := decide_eq_true (by omega)
      have Hr := Lib.hid hR.symm
      clear hd hR hc hch h39 hnil
      go_enter Tryd.func60, Tryd.ntmps60
      go_wp2_with (go_at_call 82; refine (Hc.out _).mono ?_; rintro e w1 ⟨rfl, b1⟩; have t1 : TokB w w1 := TokB.next (by first | assumption | exact TokB.start w) b1; clear b1; obtain ⟨⟨ka1, kb1, kc1, kd1, ke1, kf1, kg1⟩, fa1, fb1, fc1, fd1, fe1, ff1, fg1⟩ := t1.cells)
      exact bodyPost_ret (v := .tuple #[.agg #[.int .i64 0, .string ⟨#[]⟩, .int .i64 0, .int .i64 0, .int .i64 0, .int .i64 0, .bool false], .int .i64 0]) (by simp [results, Tryd.results60, go_sem, ka1, kb1, kc1, kd1, ke1, kf1, kg1]) rfl ⟨by rw [Hr.out]; rfl, t1.set7 _ _ _ _ _ _ _⟩

set_option maxRecDepth 100000 in
set_option maxHeartbeats 8000000 in
theorem rquoted_text (s : ByteArray) (hs : s.size ≤ 100000) (at_ : Nat) (ha : at_ < s.size) (h34 : s[at_].toNat = 34) (w : World) :
    Calls Tryd.prog 60 #[.string s, .int .i64 at_] w fun e w' => e = .returned (fdR (textK (s.data.toList.drop at_))) ∧ Below w.heap.size w w' := by
  have hsl : s.data.toList.length = s.size := rfl
  obtain ⟨i0, hi, hz0, hz1, hz2⟩ := info_parts info5
  have hd := drop_cons s at_ ha
  obtain ⟨R, hR⟩ : ∃ R, textK (s.data.toList.drop at_) = R := ⟨_, rfl⟩
  rw [hR]
  have hf : (s.data.toList.drop at_).length = s.size - at_ := by rw [List.length_drop, hsl]
  rw [hd] at hR hf
  simp only [textK] at hR
  rw [if_pos h34, hf] at hR
  have e1 : ((s[at_].toNat : Int) == 39) = false := by rw [beq_eq_false_iff_ne]; omega
  have HR := Lib.hid hR
  clear hd hR hf h34
  go_enter Tryd.func60, Tryd.ntmps60
  go_wp2
  go_loopw [8, 9] (fun v i wr => ∃ (k f n : Nat) (b : List UInt8), i = .int .i64 k ∧ at_ + n = k ∧ k ≤ s.size ∧ b.length ≤ k ∧ s.size ≤ f + k ∧ BOwn wr (w.heap.size + 1) v b ∧ TokB w wr ∧ Hid (R = textGo f (s.data.toList.drop k) b n)) (fun _ i _ => s.size - (intOf i).toNat)
  case atStart => exact ⟨at_ + 1, s.size - at_, 1, [], by go_num, rfl, by omega, by simp, by omega, World.ownsRow_nil _ _ _ _, TokB.start w, Lib.hid HR.out.symm⟩
  case round =>
    obtain ⟨k, f, n0, b, rfl, hkn, hk, hbk, hfk, hown, hT, Hk⟩ := hrel
    obtain ⟨vb, cap, rfl⟩ := own_shape hown
    obtain ⟨⟨ka, kb, kc, kd, ke, kf, kg⟩, fa, fb, fc, fd, fe, ff, fg⟩ := hT.cells
    by_cases hlt : k < s.size
    · have hlt2 : decide ((k : Int) < s.size) = true := by simp; omega
      have hlt3 : decide (k < s.size) = true := by simp; omega
      obtain ⟨g, rfl⟩ : ∃ g, f = g + 1 := ⟨f - 1, by omega⟩
      by_cases c1 : s.data.toList[k].toNat = 34
      · have Hn := Lib.hid (show R = .tok ⟨7, b, 0⟩ (n0 + 1) by rw [Hk.out, text_at g s.data.toList b n0 k hlt, if_pos c1])
        have e2 : ((s[k].toNat : Int) == 34) = true := by rw [beq_iff_eq]; exact congrArg Int.ofNat c1
        have hcv := run_back wr _ _ b hown
        have e3 : (k : Int) + 1 - (at_ : Int) = ((n0 + 1 : Nat) : Int) := by omega
        clear c1
        go_wp2
        exact bodyPost_ret (v := .tuple #[.agg #[.int .i64 7, .string ⟨b.toArray⟩, .int .i64 0, .int .i64 0, .int .i64 0, .int .i64 0, .bool false], .int .i64 ((n0 + 1 : Nat) : Int)]) (by simp [results, Tryd.results60, go_sem, ka, kb, kc, kd, ke, kf, kg]) rfl ⟨by rw [Hn.out]; rfl, hT.set7 _ _ _ _ _ _ _⟩
      · have e2 : ((s[k].toNat : Int) == 34) = false := by rw [beq_eq_false_iff_ne]; intro h; exact c1 (Int.ofNat.inj h)
        obtain ⟨hst, hcl, hcb⟩ := text_step g s.data.toList b n0 k hlt c1
        have Ht := Hk.out.trans hst
        obtain ⟨⟨cc, m⟩, hcm⟩ : ∃ o, charR (s.data.toList.drop k) 34 = o := ⟨_, rfl⟩
        rw [hcm] at Ht hcl hcb
        simp only at Ht hcl hcb
        rw [hsl] at hcl
        have Hc := Lib.hid (fun w => char_known s hs k (by omega) 34 (by decide) (cc, m) hcm w)
        simp only at Hc
        by_cases c2 : m = 0
        · have Hn := Lib.hid (Ht.trans (if_pos c2))
          have e3 : ((m : Int) == 0) = true := by rw [beq_iff_eq]; omega
          clear Ht hst hcm c1 c2
          go_wp2_with (go_at_call 82; refine (Hc.out _).mono ?_; rintro e w2 ⟨rfl, b2⟩; have t2 := hT.next b2; obtain ⟨⟨la, lb, lc, ld, le, lf, lg⟩, xa, xb, xc, xd, xe, xf, xg⟩ := t2.cells)
          exact bodyPost_ret (v := .tuple #[.agg #[.int .i64 0, .string ⟨#[]⟩, .int .i64 0, .int .i64 0, .int .i64 0, .int .i64 0, .bool false], .int .i64 0]) (by simp [results, Tryd.results60, go_sem, la, lb, lc, ld, le, lf, lg]) rfl ⟨by rw [Hn.out]; rfl, t2.set7 _ _ _ _ _ _ _⟩
        · have Ht2 := Ht.trans (if_neg c2)
          have e3 : ((m : Int) == 0) = false := by rw [beq_eq_false_iff_ne]; omega
          have hm1 : 1 ≤ m := by omega
          by_cases c3 : 0 ≤ cc
          · obtain ⟨c, rfl⟩ := Int.eq_ofNat_of_zero_le c3
            have Hn := Lib.hid (Ht2.trans (if_pos c3))
            rw [Int.toNat_natCast] at Hn
            have e4 : decide ((0 : Int) ≤ (c : Int)) = true := by simp
            have hcc : ((UInt8.ofNat c).toNat : Int) = (c : Int) := by simp; omega
            have Hcc := Lib.hid hcc
            have hby : c ≤ 255 := by omega
            clear Ht Ht2 hst hcm c1 c2 c3 hcc hcb
            go_wp2_with (first | (go_at_call 82; refine (Hc.out _).mono ?_; rintro e w2 ⟨rfl, b2⟩; have t2 := hT.next b2; have own2 := own_on hown b2 (own_lt hown)) | (at_builtin; refine wpList_append_own _ rfl _ _ 56 rfl (w.heap.size + 1) 5 i0 (.int .u8 0) 1 1 Tryd.underlying56 hi hz0 hz1 hz2 rfl (by decide) _ _ _ rfl (own2.alloc _) ⟨w2.heap.size, 0, none⟩ 1 1 [.int .u8 c] rfl rfl (cell_one_new _ _ _) (by simp [Value.oneCell']) (by unfold maxLen; omega) (by omega) (by have := t2.size; simp at this; simp; omega) ?_; intro v3 w3 hrow3 hgrow3 _))
            have t3 : TokB w w3 := grown_below (Below.alloc t2 t2.size _) hgrow3 (own2.alloc _) (by have := t2.size; simp at this ⊢; omega) (by simp)
            go_roundw
            case rel =>
              refine ⟨k + m, g, n0 + m, b ++ [UInt8.ofNat c], by go_num, by omega, by omega, by simp; omega, by omega, ?_, t3, Hn⟩
              have e : bV (b ++ [UInt8.ofNat c]) = bV b ++ [.int .u8 c] := by rw [bV_app]; simp only [bV, List.map_cons, List.map_nil]; rw [Hcc.out]
              show World.ownsRow _ _ _ _ _ _ _
              rw [e, List.length_append]
              exact hrow3
            case measure => simp [intOf]; omega
          · have Hn := Lib.hid (Ht2.trans (if_neg c3))
            have e4 : decide ((0 : Int) ≤ cc) = false := decide_eq_false c3
            clear Ht Ht2 hst hcm c1 c3
            go_wp2_with (go_at_call 82; refine (Hc.out _).mono ?_; rintro e w2 ⟨rfl, b2⟩; have t2 := hT.next b2; have own2 := own_on hown b2 (own_lt hown))
            go_roundw
            case rel => exact ⟨k + m, g, n0 + m, b, by go_num, by omega, by omega, by omega, by omega, own2, t2, Hn⟩
            case measure => simp [intOf]; omega
    · have hlt2 : decide ((k : Int) < s.size) = false := by simp; omega
      have hlt3 : decide (k < s.size) = false := by simp; omega
      have hnil : s.data.toList.drop k = [] := List.drop_eq_nil_of_le (by omega)
      have Hn := Lib.hid (show R = .bad by rw [Hk.out, hnil]; cases f <;> rfl)
      have Hc := Lib.hid (fun w => char_known s hs k (by omega) 34 (by decide) (0, 0) (by rw [hnil]; exact charR_nil _) w)
      clear hnil
      go_wp2_with (go_at_call 82; refine (Hc.out _).mono ?_; rintro e w2 ⟨rfl, b2⟩; have t2 := hT.next b2; obtain ⟨⟨la, lb, lc, ld, le, lf, lg⟩, xa, xb, xc, xd, xe, xf, xg⟩ := t2.cells)
      exact bodyPost_ret (v := .tuple #[.agg #[.int .i64 0, .string ⟨#[]⟩, .int .i64 0, .int .i64 0, .int .i64 0, .int .i64 0, .bool false], .int .i64 0]) (by simp [results, Tryd.results60, go_sem, la, lb, lc, ld, le, lf, lg]) rfl ⟨by rw [Hn.out]; rfl, t2.set7 _ _ _ _ _ _ _⟩
end Go.Proofs.YtiflklmjmdhfoaaDoor
