/- Plain laws on what lex reads: each step takes a byte and not more than there are; a step stands when the text is cut behind it (no program in sight). -/
import Derived.Test.YtnidkdjapieinaaDoorLxA
namespace Go.Proofs.YtnidkdjapieinaaDoor

theorem spanP_le (p : Nat → Bool) : ∀ l : List UInt8, spanB p l ≤ l.length
  | [] => Nat.le_refl _
  | c :: l => by rw [spanB]; split <;> simp [spanP_le p l]
theorem spanP_take (p : Nat → Bool) : ∀ (l : List UInt8) (k : Nat), spanB p (l.take k) = min (spanB p l) k
  | [], k => by simp [spanB]
  | c :: l, 0 => by simp [spanB]
  | c :: l, k + 1 => by
    rw [List.take_succ_cons, spanB, spanB]
    split
    · rw [spanP_take p l k]; omega
    · simp
theorem spanP_pos (p : Nat → Bool) (a : UInt8) (l : List UInt8) (h : p a.toNat = true) : 0 < spanB p (a :: l) := by
  rw [spanB, if_pos h]; omega
theorem spanP_zero (p : Nat → Bool) (a : UInt8) (l : List UInt8) (h : p a.toNat = false) : spanB p (a :: l) = 0 := by
  rw [spanB, if_neg (by simp [h])]
theorem spanP_iff (p : Nat → Bool) (a : UInt8) (l : List UInt8) : spanB p (a :: l) = 0 ↔ p a.toNat = false := by
  cases h : p a.toNat with
  | true => have := spanP_pos p a l h; simp; omega
  | false => simp [spanP_zero p a l h]
/-- The bytes of a run are such, and the next one is not. -/
theorem spanP_all (p : Nat → Bool) : ∀ (l : List UInt8), ∀ c ∈ l.take (spanB p l), p c.toNat = true
  | [] => by simp
  | a :: l => by
    rw [spanB]
    split
    · rename_i h
      rw [List.take_succ_cons]
      intro c hc
      rcases List.mem_cons.1 hc with rfl | hc
      · exact h
      · exact spanP_all p l c hc
    · simp
theorem spanP_append (p : Nat → Bool) : ∀ (l r : List UInt8), (∀ c ∈ l, p c.toNat = true) → (∀ c ∈ r.head?, p c.toNat = false) → spanB p (l ++ r) = l.length
  | [], [], _, _ => rfl
  | [], c :: r, _, h => by rw [List.nil_append, spanP_zero p c r (h c (by simp))]; rfl
  | a :: l, r, h, h' => by
    rw [List.cons_append, spanB, if_pos (h a (by simp)), spanP_append p l r (fun c hc => h c (List.mem_cons_of_mem _ hc)) h', List.length_cons]

theorem take_take_le (l : List UInt8) (n k : Nat) (h : n ≤ k) : (l.take k).take n = l.take n := by rw [List.take_take, Nat.min_eq_left h]

/-- A finder answers alike when the text is cut behind what it takes. -/
def Stab (f : List UInt8 → Fd) : Prop := ∀ l k, 1 ≤ k → (f l = .no → f (l.take k) = .no) ∧ ∀ t n, f l = .tok t n → (1 ≤ n ∧ n ≤ l.length) ∧ (n ≤ k → f (l.take k) = .tok t n)
theorem Stab.or {f g : List UInt8 → Fd} (hf : Stab f) (hg : Stab g) : Stab fun l => (f l).or (g l) := by
  intro l k hk
  have hF := hf l k hk
  have hG := hg l k hk
  show ((f l).or (g l) = .no → (f (l.take k)).or (g (l.take k)) = .no) ∧ ∀ t n, (f l).or (g l) = .tok t n → (1 ≤ n ∧ n ≤ l.length) ∧ (n ≤ k → (f (l.take k)).or (g (l.take k)) = .tok t n)
  refine ⟨fun h => ?_, fun t n h => ?_⟩
  · cases e : f l with
    | no => rw [e] at h hF; rw [hF.1 rfl]; exact hG.1 h
    | bad => rw [e] at h; cases h
    | tok t n => rw [e] at h; cases h
  · cases e : f l with
    | no => rw [e] at h hF; refine ⟨(hG.2 t n h).1, fun hn => ?_⟩; show (f (l.take k)).or (g (l.take k)) = _; rw [hF.1 rfl]; exact (hG.2 t n h).2 hn
    | bad => rw [e] at h; cases h
    | tok t' n' => rw [e] at h hF; cases h; refine ⟨(hF.2 t n rfl).1, fun hn => ?_⟩; show (f (l.take k)).or (g (l.take k)) = _; rw [(hF.2 t n rfl).2 hn]; rfl

theorem nameN_small (n : Nat) (h : smallN n = true) : nameN n = true := by simp [nameN, h]
theorem nameN_cap (n : Nat) (h : capN n = true) : nameN n = true := by simp [nameN, h]

theorem stab_name : Stab nameK := by
  intro l k hk
  cases l with
  | nil => exact ⟨fun h => by simpa using h, fun t n h => by simp [nameK] at h⟩
  | cons a r =>
    obtain ⟨k, rfl⟩ : ∃ j, k = j + 1 := ⟨k - 1, by omega⟩
    cases hq : smallN a.toNat with
    | false => exact ⟨fun h => by simp [nameK, hq], fun t n h => by simp [nameK, hq] at h⟩
    | true =>
      refine ⟨fun h => by simp [nameK, hq] at h, fun t n h => ?_⟩
      simp only [nameK, hq, if_true, Fd.tok.injEq] at h
      obtain ⟨rfl, rfl⟩ := h
      refine ⟨⟨spanP_pos _ _ _ (nameN_small _ hq), spanP_le _ _⟩, fun hn => ?_⟩
      have e := spanP_take nameN (a :: r) (k + 1)
      rw [Nat.min_eq_left hn] at e
      have e2 := take_take_le (a :: r) _ _ hn
      rw [List.take_succ_cons] at e e2 ⊢
      simp only [nameK, hq, if_true]
      rw [e, e2]
theorem stab_con : Stab conK := by
  intro l k hk
  cases l with
  | nil => exact ⟨fun h => by simpa using h, fun t n h => by simp [conK] at h⟩
  | cons a r =>
    obtain ⟨k, rfl⟩ : ∃ j, k = j + 1 := ⟨k - 1, by omega⟩
    cases hq : capN a.toNat with
    | false => exact ⟨fun h => by simp [conK, hq], fun t n h => by simp [conK, hq] at h⟩
    | true =>
      refine ⟨fun h => by simp [conK, hq] at h, fun t n h => ?_⟩
      simp only [conK, hq, if_true, Fd.tok.injEq] at h
      obtain ⟨rfl, rfl⟩ := h
      refine ⟨⟨spanP_pos _ _ _ (nameN_cap _ hq), spanP_le _ _⟩, fun hn => ?_⟩
      have e := spanP_take nameN (a :: r) (k + 1)
      rw [Nat.min_eq_left hn] at e
      have e2 := take_take_le (a :: r) _ _ hn
      rw [List.take_succ_cons] at e e2 ⊢
      simp only [conK, hq, if_true]
      rw [e, e2]
theorem stab_symbol : Stab symbolK := by
  intro l k hk
  cases l with
  | nil => exact ⟨fun h => by simpa using h, fun t n h => by simp [symbolK] at h⟩
  | cons a r =>
    obtain ⟨k, rfl⟩ : ∃ j, k = j + 1 := ⟨k - 1, by omega⟩
    cases hq : symN a.toNat with
    | false =>
      have z := spanP_zero symN a r hq
      have z2 := spanP_zero symN a (r.take k) hq
      exact ⟨fun h => by rw [List.take_succ_cons]; simp only [symbolK, z2, if_true], fun t n h => by simp only [symbolK, z, if_true] at h; cases h⟩
    | true =>
      have z := spanP_pos symN a r hq
      refine ⟨fun h => (by simp only [symbolK, if_neg (Nat.pos_iff_ne_zero.1 z)] at h; cases h), fun t n h => ?_⟩
      simp only [symbolK, if_neg (Nat.pos_iff_ne_zero.1 z), Fd.tok.injEq] at h
      obtain ⟨rfl, rfl⟩ := h
      refine ⟨⟨z, spanP_le _ _⟩, fun hn => ?_⟩
      have e := spanP_take symN (a :: r) (k + 1)
      rw [Nat.min_eq_left hn] at e
      have e2 := take_take_le (a :: r) _ _ hn
      rw [List.take_succ_cons] at e e2 ⊢
      simp only [symbolK]
      rw [e, e2, if_neg (Nat.pos_iff_ne_zero.1 z)]
theorem fdNum_tok {kind n : Nat} {o : Option Nat} {t : Tk} {m : Nat} (h : fdNum kind n o = .tok t m) : m = n ∧ ∃ x, o = some x ∧ t = ⟨kind, [], x⟩ := by
  cases o with
  | none => cases h
  | some x => simp only [fdNum, Fd.tok.injEq] at h; exact ⟨h.2.symm, x, rfl, h.1.symm⟩
theorem fdNum_no {kind n : Nat} {o : Option Nat} (h : fdNum kind n o = .no) : False := by cases o <;> cases h
theorem take2_take {l : List UInt8} {k : Nat} {a b : UInt8} (h : (l.take k).take 2 = [a, b]) : 2 ≤ k ∧ l.take 2 = [a, b] := by
  have h2 := congrArg List.length h
  simp only [List.length_take, List.length_cons, List.length_nil] at h2
  have hk : 2 ≤ k := by omega
  rw [take_take_le _ _ _ hk] at h
  exact ⟨hk, h⟩
theorem numberK_cons (a : UInt8) (r : List UInt8) (hq : digN a.toNat = true) : numberK (a :: r) = (if (a :: r).take 2 = [48, 120] ∧ 0 < spanB hexN ((a :: r).drop 2) then fdNum 5 (2 + spanB hexN ((a :: r).drop 2)) (wholeK 16 (((a :: r).drop 2).take (spanB hexN ((a :: r).drop 2))))
       else fdNum 5 (spanB digN (a :: r)) (wholeK 10 ((a :: r).take (spanB digN (a :: r))))) := by
  simp only [numberK, hq, if_true]
theorem stab_number : Stab numberK := by
  intro l k hk
  cases l with
  | nil => exact ⟨fun h => by simpa using h, fun t n h => by simp [numberK] at h⟩
  | cons a r =>
    obtain ⟨k, rfl⟩ : ∃ j, k = j + 1 := ⟨k - 1, by omega⟩
    cases hq : digN a.toNat with
    | false => exact ⟨fun h => by simp [numberK, hq], fun t n h => by simp [numberK, hq] at h⟩
    | true =>
      rw [show (a :: r).take (k + 1) = a :: r.take k from rfl, numberK_cons a r hq, numberK_cons a _ hq]
      by_cases hc : (a :: r).take 2 = [48, 120] ∧ 0 < spanB hexN ((a :: r).drop 2)
      · have hl : 2 + spanB hexN ((a :: r).drop 2) ≤ (a :: r).length := by
          have := spanP_le hexN ((a :: r).drop 2)
          rw [List.length_drop] at this
          have := congrArg List.length hc.1
          simp only [List.length_take, List.length_cons, List.length_nil] at this
          simp only [List.length_cons] at *
          omega
        rw [if_pos hc]
        refine ⟨fun h => (fdNum_no h).elim, fun t n h => ?_⟩
        obtain ⟨rfl, x, hx, rfl⟩ := fdNum_tok h
        refine ⟨⟨by omega, hl⟩, fun hn => ?_⟩
        have e1 : (a :: r.take k).take 2 = [48, 120] := by
          rw [← hc.1, ← List.take_succ_cons, take_take_le _ _ _ (by omega)]
        have e2 : (a :: r.take k).drop 2 = ((a :: r).drop 2).take (k + 1 - 2) := by
          rw [← List.take_succ_cons, List.drop_take]
        have e3 : spanB hexN ((a :: r.take k).drop 2) = spanB hexN ((a :: r).drop 2) := by
          rw [e2, spanP_take, Nat.min_eq_left (by omega)]
        rw [if_pos ⟨e1, by rw [e3]; exact hc.2⟩, e3, e2, take_take_le _ _ _ (by omega), hx]
        rfl
      · rw [if_neg hc]
        refine ⟨fun h => (fdNum_no h).elim, fun t n h => ?_⟩
        obtain ⟨rfl, x, hx, rfl⟩ := fdNum_tok h
        refine ⟨⟨spanP_pos _ _ _ hq, spanP_le _ _⟩, fun hn => ?_⟩
        have hc' : ¬ ((a :: r.take k).take 2 = [48, 120] ∧ 0 < spanB hexN ((a :: r.take k).drop 2)) := by
          rintro ⟨h1, h2⟩
          rw [← List.take_succ_cons] at h1 h2
          obtain ⟨k2, h1⟩ := take2_take h1
          refine hc ⟨h1, ?_⟩
          rw [List.drop_take, spanP_take] at h2
          omega
        have e := spanP_take digN (a :: r) (k + 1)
        rw [Nat.min_eq_left hn] at e
        have e2 := take_take_le (a :: r) _ _ hn
        rw [List.take_succ_cons] at e e2
        rw [if_neg hc', e, e2, hx]
        rfl
theorem stab_mark : Stab markK := by
  intro l k hk
  cases l with
  | nil => exact ⟨fun h => by simpa using h, fun t n h => by simp [markK] at h⟩
  | cons a r =>
    obtain ⟨k, rfl⟩ : ∃ j, k = j + 1 := ⟨k - 1, by omega⟩
    cases hq : markN a.toNat with
    | false => exact ⟨fun h => by simp [markK, hq], fun t n h => by simp [markK, hq] at h⟩
    | true =>
      refine ⟨fun h => by simp [markK, hq] at h, fun t n h => ?_⟩
      simp only [markK, hq, if_true, Fd.tok.injEq] at h
      obtain ⟨rfl, rfl⟩ := h
      exact ⟨⟨Nat.le_refl _, by simp⟩, fun _ => by simp only [List.take_succ_cons, markK, hq, if_true]⟩

/-- A character stands when the text is cut behind it. -/
theorem char_take (l : List UInt8) (q c n : Nat) (h : charK l q = some (c, n)) : (1 ≤ n ∧ n ≤ l.length) ∧ c ≤ 255 ∧ ∀ j, n ≤ j → charK (l.take j) q = some (c, n) := by
  cases l with
  | nil => simp [charK] at h
  | cons a l =>
    simp only [charK] at h
    by_cases h1 : a.toNat < 32 ∨ 126 < a.toNat ∨ a.toNat = q
    · rw [if_pos h1] at h; cases h
    · rw [if_neg h1] at h
      by_cases h2 : a.toNat ≠ 92
      · rw [if_pos h2] at h
        simp only [Option.some.injEq, Prod.mk.injEq] at h
        obtain ⟨rfl, rfl⟩ := h
        refine ⟨⟨Nat.le_refl _, by simp⟩, by omega, fun j hj => ?_⟩
        obtain ⟨j, rfl⟩ : ∃ i, j = i + 1 := ⟨j - 1, by omega⟩
        simp only [List.take_succ_cons, charK]
        rw [if_neg h1, if_pos h2]
      · rw [if_neg h2] at h
        cases l with
        | nil => cases h
        | cons b r =>
          simp only at h
          have go : ∀ j, 2 ≤ j → (a :: b :: r).take j = a :: b :: r.take (j - 2) := fun j hj => by
            obtain ⟨j, rfl⟩ : ∃ i, j = i + 2 := ⟨j - 2, by omega⟩
            simp
          by_cases h3 : b.toNat = 110
          · rw [if_pos h3] at h
            simp only [Option.some.injEq, Prod.mk.injEq] at h
            obtain ⟨rfl, rfl⟩ := h
            refine ⟨⟨by omega, by simp⟩, by omega, fun j hj => ?_⟩
            rw [go j hj]; simp only [charK]
            rw [if_neg h1, if_neg h2, if_pos h3]
          · rw [if_neg h3] at h
            by_cases h4 : b.toNat = 116
            · rw [if_pos h4] at h
              simp only [Option.some.injEq, Prod.mk.injEq] at h
              obtain ⟨rfl, rfl⟩ := h
              refine ⟨⟨by omega, by simp⟩, by omega, fun j hj => ?_⟩
              rw [go j hj]; simp only [charK]
              rw [if_neg h1, if_neg h2, if_neg h3, if_pos h4]
            · rw [if_neg h4] at h
              by_cases h5 : b.toNat = 92 ∨ b.toNat = 39 ∨ b.toNat = 34
              · rw [if_pos h5] at h
                simp only [Option.some.injEq, Prod.mk.injEq] at h
                obtain ⟨rfl, rfl⟩ := h
                refine ⟨⟨by omega, by simp⟩, by omega, fun j hj => ?_⟩
                rw [go j hj]; simp only [charK]
                rw [if_neg h1, if_neg h2, if_neg h3, if_neg h4, if_pos h5]
              · rw [if_neg h5] at h
                by_cases h6 : b.toNat = 120
                · rw [if_pos h6] at h
                  by_cases h7 : spanB hexN r = 0
                  · rw [if_pos h7] at h; cases h
                  · rw [if_neg h7] at h
                    cases hw : wholeK 16 (r.take (spanB hexN r)) with
                    | none => rw [hw] at h; cases h
                    | some x =>
                      rw [hw] at h
                      simp only at h
                      by_cases h8 : 255 < x
                      · rw [if_pos h8] at h; cases h
                      · rw [if_neg h8] at h
                        simp only [Option.some.injEq, Prod.mk.injEq] at h
                        obtain ⟨rfl, rfl⟩ := h
                        have := spanP_le hexN r
                        refine ⟨⟨by omega, by simp only [List.length_cons]; omega⟩, by omega, fun j hj => ?_⟩
                        rw [go j (by omega)]; simp only [charK]
                        rw [if_neg h1, if_neg h2, if_neg h3, if_neg h4, if_neg h5, if_pos h6, spanP_take, Nat.min_eq_left (by omega), if_neg h7, take_take_le _ _ _ (by omega), hw]
                        simp only
                        rw [if_neg h8]
                · rw [if_neg h6] at h
                  by_cases h7 : spanB digN (b :: r) = 0
                  · rw [if_pos h7] at h; cases h
                  · rw [if_neg h7] at h
                    cases hw : wholeK 10 ((b :: r).take (spanB digN (b :: r))) with
                    | none => rw [hw] at h; cases h
                    | some x =>
                      rw [hw] at h
                      simp only at h
                      by_cases h8 : 255 < x
                      · rw [if_pos h8] at h; cases h
                      · rw [if_neg h8] at h
                        simp only [Option.some.injEq, Prod.mk.injEq] at h
                        obtain ⟨rfl, rfl⟩ := h
                        have := spanP_le digN (b :: r)
                        refine ⟨⟨by omega, by simp only [List.length_cons] at *; omega⟩, by omega, fun j hj => ?_⟩
                        have eb : b :: r.take (j - 2) = (b :: r).take (j - 1) := by
                          obtain ⟨j, rfl⟩ : ∃ i, j = i + 2 := ⟨j - 2, by omega⟩
                          simp
                        rw [go j (by omega)]; simp only [charK]
                        rw [if_neg h1, if_neg h2, if_neg h3, if_neg h4, if_neg h5, if_neg h6, eb, spanP_take, Nat.min_eq_left (by omega), if_neg h7, take_take_le _ _ _ (by omega), hw]
                        simp only
                        rw [if_neg h8]
theorem stab_char : Stab charTK := by
  intro l k hk
  cases l with
  | nil => exact ⟨fun h => by simpa using h, fun t n h => by simp [charTK] at h⟩
  | cons a r =>
    obtain ⟨k, rfl⟩ : ∃ j, k = j + 1 := ⟨k - 1, by omega⟩
    simp only [List.take_succ_cons, charTK]
    by_cases hq : a.toNat = 39
    · rw [if_pos hq, if_pos hq]
      cases hc : charK r 39 with
      | none => exact ⟨fun h => (by cases h), fun t n h => by cases h⟩
      | some p =>
        obtain ⟨c, m⟩ := p
        obtain ⟨⟨h1, h2⟩, h3, h4⟩ := char_take r 39 c m hc
        simp only
        cases hd : r.drop m with
        | nil => exact ⟨fun h => (by cases h), fun t n h => by cases h⟩
        | cons b r' =>
          simp only
          by_cases hb : b.toNat = 39
          · rw [if_pos hb]
            refine ⟨fun h => (by cases h), fun t n h => ?_⟩
            simp only [Fd.tok.injEq] at h
            obtain ⟨rfl, rfl⟩ := h
            have hl := congrArg List.length hd
            simp only [List.length_drop, List.length_cons] at hl
            refine ⟨⟨by omega, by simp only [List.length_cons]; omega⟩, fun hn => ?_⟩
            rw [h4 k (by omega)]
            simp only
            rw [List.drop_take, hd]
            obtain ⟨j, hj⟩ : ∃ j, k - m = j + 1 := ⟨k - m - 1, by omega⟩
            rw [hj, List.take_succ_cons]
            simp only
            rw [if_pos hb]
          · rw [if_neg hb]; exact ⟨fun h => (by cases h), fun t n h => by cases h⟩
    · rw [if_neg hq, if_neg hq]; exact ⟨fun _ => rfl, fun t n h => by cases h⟩

theorem gap_take (l : List UInt8) (j : Nat) : (gapK l = 0 → gapK (l.take j) = 0) ∧ (gapK l ≠ 0 → gapK l ≤ l.length ∧ (gapK l ≤ j → gapK (l.take j) = gapK l)) := by
  cases l with
  | nil => simp [gapK]
  | cons a r =>
    cases j with
    | zero =>
      refine ⟨fun _ => by simp [gapK], fun h => ⟨?_, fun h' => absurd (Nat.le_zero.1 h') h⟩⟩
      revert h
      simp only [gapK]
      split
      · cases r with
        | nil => simp
        | cons b r =>
          simp only
          split
          · intro _; simp
          · split
            · simp
            · cases hd : (b :: r).drop (spanB blankN (b :: r)) with
              | nil => simp
              | cons c r' =>
                simp only
                have hl := congrArg List.length hd
                simp only [List.length_drop, List.length_cons] at hl
                split
                · intro _; simp only [List.length_cons]; omega
                · simp
      · simp
    | succ j =>
      rw [List.take_succ_cons]
      by_cases ha : a.toNat = 92
      · cases r with
        | nil => simp [gapK]
        | cons b r =>
          by_cases hb : b.toNat = 38
          · simp only [gapK, if_pos ha, if_pos hb]
            refine ⟨fun h => by omega, fun _ => ⟨by simp, fun h => ?_⟩⟩
            obtain ⟨j, rfl⟩ : ∃ i, j = i + 1 := ⟨j - 1, by omega⟩
            rw [List.take_succ_cons]
            simp only
            rw [if_pos hb]
          · by_cases hs : spanB blankN (b :: r) = 0
            · simp only [gapK, if_pos ha, if_neg hb, if_pos hs]
              refine ⟨fun _ => ?_, fun h => absurd rfl h⟩
              cases j with
              | zero => rfl
              | succ j =>
                have hs' : spanB blankN (b :: r.take j) = 0 := by rw [← List.take_succ_cons, spanP_take, hs]; simp
                rw [List.take_succ_cons]
                simp only
                rw [if_neg hb, if_pos hs']
            · cases hd : (b :: r).drop (spanB blankN (b :: r)) with
              | nil =>
                simp only [gapK, if_pos ha, if_neg hb, if_neg hs, hd]
                refine ⟨fun _ => ?_, fun h => absurd rfl h⟩
                cases j with
                | zero => rfl
                | succ j =>
                  rw [List.take_succ_cons]
                  simp only
                  rw [if_neg hb]
                  split
                  · rfl
                  · have e : (b :: r.take j).drop (spanB blankN (b :: r.take j)) = [] := by
                      rw [← List.take_succ_cons, spanP_take, List.drop_take]
                      rcases Nat.le_total (spanB blankN (b :: r)) (j + 1) with h | h
                      · rw [Nat.min_eq_left h, hd]; simp
                      · rw [Nat.min_eq_right h]; simp
                    rw [e]
              | cons c r' =>
                have hl := congrArg List.length hd
                simp only [List.length_drop, List.length_cons] at hl
                have e : ∀ i, spanB blankN (b :: r) < i + 1 → (b :: r.take i).drop (spanB blankN (b :: r.take i)) = c :: r'.take (i - spanB blankN (b :: r)) := fun i hi => by
                  rw [← List.take_succ_cons, spanP_take, List.drop_take, Nat.min_eq_left (by omega), hd, show i + 1 - spanB blankN (b :: r) = (i - spanB blankN (b :: r)) + 1 by omega, List.take_succ_cons]
                have e' : ∀ i, i + 1 ≤ spanB blankN (b :: r) → (b :: r.take i).drop (spanB blankN (b :: r.take i)) = [] := fun i hi => by
                  rw [← List.take_succ_cons, spanP_take, List.drop_take, Nat.min_eq_right (by omega)]; simp
                have ep : ∀ i, spanB blankN (b :: r.take i) ≠ 0 := fun i => by
                  rw [← List.take_succ_cons, spanP_take]; omega
                have es : ∀ i, spanB blankN (b :: r) < i + 1 → spanB blankN (b :: r.take i) = spanB blankN (b :: r) := fun i hi => by
                  rw [← List.take_succ_cons, spanP_take, Nat.min_eq_left (by omega)]
                by_cases hc : c.toNat = 92
                · simp only [gapK, if_pos ha, if_neg hb, if_neg hs, hd, if_pos hc]
                  refine ⟨fun h => by omega, fun _ => ⟨by simp only [List.length_cons]; omega, fun h => ?_⟩⟩
                  obtain ⟨j, rfl⟩ : ∃ i, j = i + 1 := ⟨j - 1, by omega⟩
                  rw [List.take_succ_cons]
                  simp only
                  rw [if_neg hb, if_neg (ep j), e j (by omega)]
                  simp only
                  rw [if_pos hc, es j (by omega)]
                · simp only [gapK, if_pos ha, if_neg hb, if_neg hs, hd, if_neg hc]
                  refine ⟨fun _ => ?_, fun h => absurd rfl h⟩
                  cases j with
                  | zero => rfl
                  | succ j =>
                    rw [List.take_succ_cons]
                    simp only
                    rw [if_neg hb, if_neg (ep j)]
                    rcases Nat.lt_or_ge (spanB blankN (b :: r)) (j + 1) with h | h
                    · rw [e j h]; simp only; rw [if_neg hc]
                    · rw [e' j (by omega)]
      · simp [gapK, ha]

theorem textGo_take : ∀ (f : Nat) (l b : List UInt8) (i : Nat) (t : Tk) (n : Nat), textGo f l b i = .tok t n →
    (i < n ∧ n - i ≤ l.length) ∧ ∀ j f', n - i ≤ j → n - i ≤ f' → textGo f' (l.take j) b i = .tok t n
  | 0, _, _, _, _, _, h => by cases h
  | f + 1, [], _, _, _, _, h => by cases h
  | f + 1, a :: r, b, i, t, n, h => by
    simp only [textGo] at h
    have g := gap_take (a :: r)
    by_cases h1 : a.toNat = 34
    · rw [if_pos h1] at h
      simp only [Fd.tok.injEq] at h
      obtain ⟨rfl, rfl⟩ := h
      refine ⟨⟨by omega, by simp only [List.length_cons]; omega⟩, fun j f' hj hf => ?_⟩
      obtain ⟨j, rfl⟩ : ∃ k, j = k + 1 := ⟨j - 1, by omega⟩
      obtain ⟨f', rfl⟩ : ∃ k, f' = k + 1 := ⟨f' - 1, by omega⟩
      rw [List.take_succ_cons]
      simp only [textGo]
      rw [if_pos h1]
    · rw [if_neg h1] at h
      by_cases h2 : gapK (a :: r) ≠ 0
      · rw [if_pos h2] at h
        obtain ⟨⟨i1, i2⟩, i3⟩ := textGo_take f _ b _ t n h
        have hgl := ((g 0).2 h2).1
        rw [List.length_drop] at i2
        refine ⟨⟨by omega, by omega⟩, fun j f' hj hf => ?_⟩
        obtain ⟨j, rfl⟩ : ∃ k, j = k + 1 := ⟨j - 1, by omega⟩
        obtain ⟨f', rfl⟩ : ∃ k, f' = k + 1 := ⟨f' - 1, by omega⟩
        have e := ((g (j + 1)).2 h2).2 (by omega)
        rw [List.take_succ_cons] at e ⊢
        simp only [textGo]
        rw [if_neg h1, e, if_pos h2, ← List.take_succ_cons, List.drop_take]
        exact i3 _ f' (by omega) (by omega)
      · rw [if_neg h2] at h
        have h2' : gapK (a :: r) = 0 := Nat.eq_zero_of_not_pos (fun h => h2 (by omega))
        cases hc : charK (a :: r) 34 with
        | none => rw [hc] at h; cases h
        | some p =>
          obtain ⟨c, m⟩ := p
          rw [hc] at h
          simp only at h
          obtain ⟨⟨c1, c2⟩, c3, c4⟩ := char_take _ _ _ _ hc
          obtain ⟨⟨i1, i2⟩, i3⟩ := textGo_take f _ _ _ t n h
          rw [List.length_drop] at i2
          refine ⟨⟨by omega, by omega⟩, fun j f' hj hf => ?_⟩
          obtain ⟨j, rfl⟩ : ∃ k, j = k + 1 := ⟨j - 1, by omega⟩
          obtain ⟨f', rfl⟩ : ∃ k, f' = k + 1 := ⟨f' - 1, by omega⟩
          have e := (g (j + 1)).1 h2'
          have e2 := c4 (j + 1) (by omega)
          rw [List.take_succ_cons] at e e2 ⊢
          simp only [textGo]
          rw [if_neg h1, e, if_neg (fun h => h rfl), e2]
          simp only
          rw [← List.take_succ_cons, List.drop_take]
          exact i3 _ f' (by omega) (by omega)
theorem textGo_no : ∀ (f : Nat) (l b : List UInt8) (i : Nat), textGo f l b i ≠ .no
  | 0, _, _, _ => by simp [textGo]
  | f + 1, [], _, _ => by simp [textGo]
  | f + 1, a :: r, b, i => by
    simp only [textGo]
    split
    · simp
    · split
      · exact textGo_no f _ _ _
      · split
        · simp
        · exact textGo_no f _ _ _
theorem stab_text : Stab textK := by
  intro l k hk
  cases l with
  | nil => exact ⟨fun h => by simpa using h, fun t n h => by simp [textK] at h⟩
  | cons a r =>
    obtain ⟨k, rfl⟩ : ∃ j, k = j + 1 := ⟨k - 1, by omega⟩
    simp only [List.take_succ_cons, textK]
    by_cases hq : a.toNat = 34
    · rw [if_pos hq, if_pos hq]
      refine ⟨fun h => ?_, fun t n h => ?_⟩
      · exact absurd h (textGo_no _ _ _ _)
      · obtain ⟨⟨h1, h2⟩, h3⟩ := textGo_take _ _ _ _ _ _ h
        refine ⟨⟨by omega, by simp only [List.length_cons]; omega⟩, fun hn => h3 k _ (by omega) ?_⟩
        simp only [List.length_cons, List.length_take]
        omega
    · rw [if_neg hq, if_neg hq]; exact ⟨fun _ => rfl, fun t n h => by cases h⟩
theorem stab_one : Stab oneK := stab_name.or (stab_con.or (stab_symbol.or (stab_number.or (stab_char.or (stab_text.or stab_mark)))))
end Go.Proofs.YtnidkdjapieinaaDoor
