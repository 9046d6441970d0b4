/- The document's lexer against the program's: blanks one by one and a span at once (plain). The document's lexer against the program's: a round of each (plain). -/
import Derived.Test.YtiflklmjmdhfoaaDoorLrI
import Derived.Test.YtiflklmjmdhfoaaDoorLxT
namespace Go.Proofs.YtiflklmjmdhfoaaDoor
open Go.RowKit Go.Shelf

theorem all_fuel : ∀ (f g : Nat) (l : List UInt8) (i : Nat) (q : Nat × Nat) (last : Nat) (ts : List Tp), l.length ≤ f → l.length ≤ g → allGo f l i q last ts = allGo g l i q last ts := by
  intro f
  induction f with
  | zero =>
    intro g l i q last ts h1 h2
    obtain rfl : l = [] := List.length_eq_zero_iff.1 (by omega)
    cases g <;> rfl
  | succ f ih =>
    intro g l i q last ts h1 h2
    cases l with
    | nil => cases g <;> rfl
    | cons a r =>
      cases g with
      | zero => simp at h2
      | succ g =>
        rw [allGo, allGo]
        cases hs : step1 (a :: r) with
        | bad => rfl
        | skip n =>
          have h3 := (step_skip hs).1
          refine ih g _ _ _ _ _ ?_ ?_ <;> simp only [List.length_drop, List.length_cons] at h1 h2 ⊢ <;> omega
        | tok t n =>
          have h3 := (step_tok hs).1
          refine ih g _ _ _ _ _ ?_ ?_ <;> simp only [List.length_drop, List.length_cons] at h1 h2 ⊢ <;> omega
theorem span_blank (a : UInt8) (r : List UInt8) (h : blankN a.toNat = true) : spanB blankN (a :: r) = spanB blankN r + 1 := by
  simp [spanB, h]
/-- A blank byte gone over alone. -/
theorem all_blank (f : Nat) (a : UInt8) (r : List UInt8) (i : Nat) (q : Nat × Nat) (last : Nat) (ts : List Tp) (h : blankN a.toNat = true) (hf : r.length ≤ f) :
    allGo (f + 1) (a :: r) i q last ts = allGo f r (i + 1) (overB q a) last ts := by
  have hs : step1 (a :: r) = .skip (spanB blankN r + 1) := by
    unfold step1; rw [span_blank a r h, if_pos (by omega)]
  rw [allGo, hs]
  simp only [List.drop_succ_cons, List.take_succ_cons]
  by_cases hm : 0 < spanB blankN r
  · have hs2 : step1 r = .skip (spanB blankN r) := by unfold step1; rw [if_pos hm]
    cases r with
    | nil => simp [spanB] at hm
    | cons b r2 =>
      obtain ⟨f, rfl⟩ : ∃ k, f = k + 1 := ⟨f - 1, by simp at hf; omega⟩
      conv => rhs; rw [allGo, hs2]
      simp only
      rw [show i + (spanB blankN (b :: r2) + 1) = i + 1 + spanB blankN (b :: r2) from by omega]
      exact all_fuel _ _ _ _ _ _ _ (by simp only [List.length_drop]; omega) (by simp only [List.length_drop, List.length_cons] at hf ⊢; omega)
  · obtain hm : spanB blankN r = 0 := by omega
    rw [hm]
    rfl
end Go.Proofs.YtiflklmjmdhfoaaDoor

namespace Go.Proofs.YtiflklmjmdhfoaaDoor
open Go.RowKit Go.Shelf

theorem ref_pass (l : List UInt8) (m : Nat) (h : passedK l = (m : Int)) (hm : 0 < m) (f i : Nat) (q : Nat × Nat) (last : Nat) (ts : List Tp) (hf : l.length ≤ f + 1) :
    m ≤ l.length ∧ allGo (f + 1) l i q last ts = allGo f (l.drop m) (i + m) (overL q (l.take m)) last ts := by
  cases l with
  | nil => simp [passedK] at h; omega
  | cons a r =>
    cases hb : blankN a.toNat with
    | true =>
      simp only [passedK, hb, if_true] at h
      obtain rfl : m = 1 := by omega
      refine ⟨by simp, ?_⟩
      rw [all_blank f a r i q last ts hb (by simp at hf; omega)]
      rfl
    | false =>
      have h' : remarkK (a :: r) = (m : Int) := by simpa [passedK, hb] using h
      have hs : step1 (a :: r) = .skip m := by
        unfold step1
        rw [if_neg (by simp [spanB, hb]), h', if_pos (by omega)]
        rfl
      refine ⟨(step_skip hs).1.2, ?_⟩
      rw [allGo, hs]
theorem ref_neg (l : List UInt8) (h : passedK l < 0) (f i : Nat) (q : Nat × Nat) (last : Nat) (ts : List Tp) : allGo (f + 1) l i q last ts = .error i := by
  cases l with
  | nil => simp [passedK] at h
  | cons a r =>
    cases hb : blankN a.toNat with
    | true => simp [passedK, hb] at h
    | false =>
      have h' : remarkK (a :: r) < 0 := by simpa [passedK, hb] using h
      have hs : step1 (a :: r) = .bad := by
        unfold step1
        rw [if_neg (by simp [spanB, hb]), if_neg (by omega), if_pos h']
      rw [allGo, hs]
theorem ref_none (a : UInt8) (r : List UInt8) (h : passedK (a :: r) = 0) : remarkK (a :: r) = 0 ∧ step1 (a :: r) = (match oneK (a :: r) with | .tok t n => .tok t n | _ => .bad) := by
  cases hb : blankN a.toNat with
  | true => simp [passedK, hb] at h
  | false =>
    have h' : remarkK (a :: r) = 0 := by simpa [passedK, hb] using h
    refine ⟨h', ?_⟩
    unfold step1
    rw [if_neg (by simp [spanB, hb]), if_neg (by omega), if_neg (by omega)]
    cases oneK (a :: r) <;> rfl
theorem ref_tok (l : List UInt8) (hl : l ≠ []) (h : passedK l = 0) (t : Tk) (n : Nat) (ho : oneK l = .tok t n) (f i : Nat) (q : Nat × Nat) (last : Nat) (ts : List Tp) :
    1 ≤ n ∧ n ≤ l.length ∧ ((t.kind : Int) != 0) = true ∧ allGo (f + 1) l i q last ts = allGo f (l.drop n) (i + n) (overL q (l.take n)) q.1 (ts ++ [⟨t, i, q.1, q.2, q.1 != last⟩]) := by
  cases l with
  | nil => exact absurd rfl hl
  | cons a r =>
    obtain ⟨h1, hs⟩ := ref_none a r h
    rw [ho] at hs
    have hwf := one_wf _ _ _ h1 ho
    obtain ⟨⟨t1, t2⟩, _⟩ := step_tok hs
    refine ⟨t1, t2, ?_, by rw [allGo, hs]⟩
    rw [bne_iff_ne]
    rcases hwf with ⟨h, _⟩ | ⟨h, _⟩ | ⟨h, _⟩ | ⟨_, ⟨a, r, _, h⟩, _⟩ | ⟨h, _⟩ | ⟨h, _⟩ | ⟨h, _⟩ | ⟨h, _⟩
    · omega
    · omega
    · omega
    · rw [h]; split
      · decide
      · split <;> decide
    · omega
    · omega
    · omega
    · omega
theorem ref_no (l : List UInt8) (hl : l ≠ []) (h : passedK l = 0) (ho : ∀ t n, oneK l ≠ .tok t n) (f i : Nat) (q : Nat × Nat) (last : Nat) (ts : List Tp) : allGo (f + 1) l i q last ts = .error i ∧ fdR (oneK l) = fdR .no := by
  cases l with
  | nil => exact absurd rfl hl
  | cons a r =>
    obtain ⟨h1, hs⟩ := ref_none a r h
    cases hx : oneK (a :: r) with
    | tok t n => exact absurd hx (ho t n)
    | no => rw [hx] at hs; exact ⟨by rw [allGo, hs], rfl⟩
    | bad => rw [hx] at hs; exact ⟨by rw [allGo, hs], rfl⟩
end Go.Proofs.YtiflklmjmdhfoaaDoor
