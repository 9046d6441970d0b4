/- Plain laws on all of a text: a step stands when the text is cut behind it; places rise; between tokens there are blanks and remarks alone. -/
import Derived.Test.YtnidkdjapieinaaDoorLxP
namespace Go.Proofs.YtnidkdjapieinaaDoor

theorem nest_take : ∀ (f : Nat) (l : List UInt8) (d : Int) (i m : Nat), nestGo f l d i = (m : Int) →
    (i < m ∧ m - i ≤ l.length) ∧ ∀ j f', m - i ≤ j → m - i ≤ f' → nestGo f' (l.take j) d i = (m : Int)
  | 0, _, _, _, m, h => by simp only [nestGo] at h; omega
  | f + 1, [], _, _, m, h => by simp only [nestGo] at h; omega
  | f + 1, [_], _, _, m, h => by simp only [nestGo] at h; omega
  | f + 1, a :: b :: l, d, i, m, h => by
    simp only [nestGo] at h
    by_cases h1 : a = 123 ∧ b = 45
    · rw [if_pos h1] at h
      obtain ⟨⟨i1, i2⟩, i3⟩ := nest_take f l (d + 1) (i + 2) m h
      refine ⟨⟨by omega, by simp only [List.length_cons]; omega⟩, fun j f' hj hf => ?_⟩
      obtain ⟨j, rfl⟩ : ∃ k, j = k + 2 := ⟨j - 2, by omega⟩
      obtain ⟨f', rfl⟩ : ∃ k, f' = k + 1 := ⟨f' - 1, by omega⟩
      rw [List.take_succ_cons, List.take_succ_cons]
      simp only [nestGo]
      rw [if_pos h1]
      exact i3 _ _ (by omega) (by omega)
    · rw [if_neg h1] at h
      by_cases h2 : a = 45 ∧ b = 125
      · rw [if_pos h2] at h
        by_cases h3 : d - 1 = 0
        · rw [if_pos h3] at h
          refine ⟨⟨by omega, by simp only [List.length_cons]; omega⟩, fun j f' hj hf => ?_⟩
          obtain ⟨j, rfl⟩ : ∃ k, j = k + 2 := ⟨j - 2, by omega⟩
          obtain ⟨f', rfl⟩ : ∃ k, f' = k + 1 := ⟨f' - 1, by omega⟩
          rw [List.take_succ_cons, List.take_succ_cons]
          simp only [nestGo]
          rw [if_neg h1, if_pos h2, if_pos h3]
          exact h
        · rw [if_neg h3] at h
          obtain ⟨⟨i1, i2⟩, i3⟩ := nest_take f l (d - 1) (i + 2) m h
          refine ⟨⟨by omega, by simp only [List.length_cons]; omega⟩, fun j f' hj hf => ?_⟩
          obtain ⟨j, rfl⟩ : ∃ k, j = k + 2 := ⟨j - 2, by omega⟩
          obtain ⟨f', rfl⟩ : ∃ k, f' = k + 1 := ⟨f' - 1, by omega⟩
          rw [List.take_succ_cons, List.take_succ_cons]
          simp only [nestGo]
          rw [if_neg h1, if_pos h2, if_neg h3]
          exact i3 _ _ (by omega) (by omega)
      · rw [if_neg h2] at h
        obtain ⟨⟨i1, i2⟩, i3⟩ := nest_take f (b :: l) d (i + 1) m h
        simp only [List.length_cons] at i2
        -- at least two bytes are left
        have h3 : 2 ≤ m - (i + 1) := by
          cases f with
          | zero => simp only [nestGo] at h; omega
          | succ f =>
            cases l with
            | nil => simp only [nestGo] at h; omega
            | cons c l =>
              simp only [nestGo] at h
              by_cases g1 : b = 123 ∧ c = 45
              · rw [if_pos g1] at h
                have := (nest_take f _ _ _ m h).1.1
                omega
              · rw [if_neg g1] at h
                by_cases g2 : b = 45 ∧ c = 125
                · rw [if_pos g2] at h
                  by_cases g3 : d - 1 = 0
                  · rw [if_pos g3] at h; omega
                  · rw [if_neg g3] at h
                    have := (nest_take f _ _ _ m h).1.1
                    omega
                · rw [if_neg g2] at h
                  have := (nest_take f _ _ _ m h).1.1
                  omega
        refine ⟨⟨by omega, by simp only [List.length_cons]; omega⟩, fun j f' hj hf => ?_⟩
        obtain ⟨j, rfl⟩ : ∃ k, j = k + 2 := ⟨j - 2, by omega⟩
        obtain ⟨f', rfl⟩ : ∃ k, f' = k + 1 := ⟨f' - 1, by omega⟩
        have e := i3 (j + 1) f' (by omega) (by omega)
        rw [List.take_succ_cons] at e
        rw [List.take_succ_cons, List.take_succ_cons]
        simp only [nestGo]
        rw [if_neg h1, if_neg h2]
        exact e

theorem span_nl (l : List UInt8) : spanB symN l ≤ spanB (fun n => !Nat.beq n 10) l := by
  induction l with
  | nil => exact Nat.le_refl _
  | cons a l ih =>
    rw [spanB, spanB]
    by_cases h : symN a.toNat = true
    · rw [if_pos h]
      have h2 : (!Nat.beq a.toNat 10) = true := by
        cases e : Nat.beq a.toNat 10 with
        | false => rfl
        | true => rw [Nat.eq_of_beq_eq_true e] at h; exact absurd h (by decide)
      rw [if_pos h2]; omega
    · rw [if_neg h]; omega

/-- A remark stands when the text is cut behind it. -/
theorem remark_take (l : List UInt8) (m : Nat) (hm : 0 < m) (h : remarkK l = (m : Int)) : m ≤ l.length ∧ ∀ k, m ≤ k → remarkK (l.take k) = (m : Int) := by
  unfold remarkK at h
  by_cases h1 : 2 ≤ spanB symN l ∧ dashes (l.take (spanB symN l)) = true
  · rw [if_pos h1] at h
    have h := Int.ofNat.inj h
    have hs := span_nl l
    refine ⟨by rw [← h]; exact spanP_le _ _, fun k hk => ?_⟩
    unfold remarkK
    rw [spanP_take, Nat.min_eq_left (by omega), take_take_le _ _ _ (by omega), if_pos h1, spanP_take, Nat.min_eq_left (by omega), h]
  · rw [if_neg h1] at h
    by_cases h2 : l.take 2 = [123, 45]
    · rw [if_pos h2] at h
      obtain ⟨⟨i1, i2⟩, i3⟩ := nest_take _ _ _ _ _ h
      refine ⟨by omega, fun k hk => ?_⟩
      have hk2 : 2 ≤ k := by
        rcases Nat.lt_or_ge k 2 with g | g
        · exfalso
          obtain ⟨a, b, r, rfl⟩ : ∃ a b r, l = a :: b :: r := by
            match l, h2 with
            | a :: b :: r, _ => exact ⟨a, b, r, rfl⟩
          have hm1 : m = 1 := by omega
          have := (i3 1 1 (by omega) (by omega))
          simp [nestGo] at this
        · exact g
      have hz : spanB symN l = 0 := by
        match l, h2 with
        | a :: b :: r, h2 =>
          simp only [List.take_succ_cons, List.take_zero, List.cons.injEq] at h2
          rw [h2.1]; exact spanP_zero _ _ _ (by decide)
      unfold remarkK
      rw [spanP_take, hz, Nat.zero_min, if_neg (by omega), take_take_le _ _ _ hk2, if_pos h2]
      exact i3 _ _ (by omega) (by rw [List.length_take]; omega)
    · rw [if_neg h2] at h; omega

/-- Where there is no remark, there is none when the text is cut behind a run of symbols. -/
theorem remark_none (l : List UInt8) (k : Nat) (hs : spanB symN l ≤ k) (h : remarkK l = 0) : remarkK (l.take k) = 0 := by
  unfold remarkK at h
  have h1 : ¬ (2 ≤ spanB symN l ∧ dashes (l.take (spanB symN l)) = true) := by
    intro g
    rw [if_pos g] at h
    have := span_nl l
    omega
  rw [if_neg h1] at h
  have h2 : ¬ l.take 2 = [123, 45] := by
    intro g
    rw [if_pos g] at h
    have := (nest_take _ _ _ _ 0 h).1.1
    omega
  unfold remarkK
  rw [spanP_take, Nat.min_eq_left hs, take_take_le _ _ _ hs, if_neg h1, if_neg fun g => h2 (take2_take g).2]

theorem one_sym (l : List UInt8) (t : Tk) (n : Nat) (h : oneK l = .tok t n) : spanB symN l ≤ n := by
  cases l with
  | nil => simp [spanB]
  | cons a r =>
    cases hq : symN a.toNat with
    | false => rw [spanP_zero _ _ _ hq]; omega
    | true =>
      have z := spanP_pos symN a r hq
      have hb : symN a.toNat = true → smallN a.toNat = false ∧ capN a.toNat = false := by
        have : ∀ n, n < 256 → symN n = true → smallN n = false ∧ capN n = false := by decide +kernel
        exact this _ (UInt8.toNat_lt a)
      obtain ⟨b1, b2⟩ := hb hq
      have e1 : nameK (a :: r) = .no := by simp [nameK, b1]
      have e2 : conK (a :: r) = .no := by simp [conK, b2]
      simp only [oneK, e1, e2, Fd.or, symbolK, if_neg (Nat.pos_iff_ne_zero.1 z)] at h
      cases h
      exact Nat.le_refl _

def St1.len : St1 → Nat
  | .skip n => n
  | .tok _ n => n
  | .bad => 0
theorem step_take (l : List UInt8) (h : step1 l ≠ .bad) : (1 ≤ (step1 l).len ∧ (step1 l).len ≤ l.length) ∧ ∀ k, (step1 l).len ≤ k → step1 (l.take k) = step1 l := by
  by_cases h1 : 0 < spanB blankN l
  · have e : step1 l = .skip (spanB blankN l) := by unfold step1; rw [if_pos h1]
    rw [e]
    refine ⟨⟨h1, spanP_le _ _⟩, fun k hk => ?_⟩
    simp only [St1.len] at hk
    unfold step1
    rw [spanP_take, Nat.min_eq_left hk, if_pos h1]
  · by_cases h2 : 0 < remarkK l
    · obtain ⟨m, hm⟩ : ∃ m : Nat, remarkK l = m := ⟨(remarkK l).toNat, by omega⟩
      have e : step1 l = .skip m := by unfold step1; rw [if_neg h1, if_pos h2, hm]; rfl
      obtain ⟨g1, g2⟩ := remark_take l m (by omega) hm
      rw [e]
      refine ⟨⟨by simp only [St1.len]; omega, g1⟩, fun k hk => ?_⟩
      simp only [St1.len] at hk
      unfold step1
      rw [spanP_take, if_neg (by omega), g2 k hk, if_pos (by omega)]
      rfl
    · by_cases h3 : remarkK l < 0
      · exact absurd (by unfold step1; rw [if_neg h1, if_neg h2, if_pos h3]) h
      · have h0 : remarkK l = 0 := by omega
        cases ho : oneK l with
        | no => exact absurd (by unfold step1; rw [if_neg h1, if_neg h2, if_neg h3, ho]) h
        | bad => exact absurd (by unfold step1; rw [if_neg h1, if_neg h2, if_neg h3, ho]) h
        | tok t n =>
          have e : step1 l = .tok t n := by unfold step1; rw [if_neg h1, if_neg h2, if_neg h3, ho]
          rw [e]
          obtain ⟨⟨s1, s2⟩, _⟩ := (stab_one l 1 (Nat.le_refl _)).2 t n ho
          refine ⟨⟨s1, s2⟩, fun k hk => ?_⟩
          simp only [St1.len] at hk
          have hs := one_sym l t n ho
          have s3 := ((stab_one l k (by omega)).2 t n ho).2 hk
          unfold step1
          rw [spanP_take, if_neg (by omega), remark_none l k (by omega) h0, if_neg (by omega), if_neg (by omega), s3]

theorem step_skip {l : List UInt8} {n : Nat} (h : step1 l = .skip n) : (1 ≤ n ∧ n ≤ l.length) ∧ ∀ k, n ≤ k → step1 (l.take k) = .skip n := by
  have := step_take l (by rw [h]; exact fun h => by cases h)
  rw [h] at this
  exact this
theorem step_tok {l : List UInt8} {t : Tk} {n : Nat} (h : step1 l = .tok t n) : (1 ≤ n ∧ n ≤ l.length) ∧ ∀ k, n ≤ k → step1 (l.take k) = .tok t n := by
  have := step_take l (by rw [h]; exact fun h => by cases h)
  rw [h] at this
  exact this

/-- A text falls into steps. -/
inductive Lexes : List UInt8 → List (Option Tk × Nat) → Prop where
  | nil : Lexes [] []
  | skip {l : List UInt8} {n : Nat} {ss : List (Option Tk × Nat)} : step1 l = .skip n → Lexes (l.drop n) ss → Lexes l ((none, n) :: ss)
  | tok {l : List UInt8} {t : Tk} {n : Nat} {ss : List (Option Tk × Nat)} : step1 l = .tok t n → Lexes (l.drop n) ss → Lexes l ((some t, n) :: ss)

/-- The tokens of steps, with their places; p: line and column, last: the last token's line. -/
def placed : List UInt8 → List (Option Tk × Nat) → Nat → Nat × Nat → Nat → List Tp
  | _, [], _, _, _ => []
  | l, (none, n) :: ss, i, p, last => placed (l.drop n) ss (i + n) (overL p (l.take n)) last
  | l, (some t, n) :: ss, i, p, last => ⟨t, i, p.1, p.2, p.1 != last⟩ :: placed (l.drop n) ss (i + n) (overL p (l.take n)) p.1

theorem allGo_ok : ∀ (f : Nat) (l : List UInt8) (i : Nat) (p : Nat × Nat) (last : Nat) (out res : List Tp), l.length ≤ f → allGo f l i p last out = .ok res →
    ∃ ss, Lexes l ss ∧ res = out ++ placed l ss i p last
  | 0, l, i, p, last, out, res, hl, h => by
    simp only [allGo] at h
    cases h
    have : l = [] := List.length_eq_zero_iff.1 (by omega)
    subst this
    exact ⟨[], .nil, by simp [placed]⟩
  | f + 1, [], i, p, last, out, res, hl, h => by
    simp only [allGo] at h
    cases h
    exact ⟨[], .nil, by simp [placed]⟩
  | f + 1, a :: r, i, p, last, out, res, hl, h => by
    simp only [allGo] at h
    cases hs : step1 (a :: r) with
    | bad => rw [hs] at h; cases h
    | skip n =>
      rw [hs] at h
      have hn := (step_skip hs).1
      obtain ⟨ss, h1, h2⟩ := allGo_ok f _ _ _ _ _ _ (by rw [List.length_drop]; omega) h
      exact ⟨_, .skip hs h1, h2⟩
    | tok t n =>
      rw [hs] at h
      have hn := (step_tok hs).1
      obtain ⟨ss, h1, h2⟩ := allGo_ok f _ _ _ _ _ _ (by rw [List.length_drop]; omega) h
      exact ⟨_, .tok hs h1, by rw [h2, List.append_assoc]; rfl⟩
theorem allGo_of : ∀ (f : Nat) (l : List UInt8) (ss : List (Option Tk × Nat)), Lexes l ss → ∀ (i : Nat) (p : Nat × Nat) (last : Nat) (out : List Tp), l.length ≤ f →
    allGo f l i p last out = .ok (out ++ placed l ss i p last)
  | 0, l, ss, h, i, p, last, out, hl => by
    have : l = [] := List.length_eq_zero_iff.1 (by omega)
    subst this
    cases h with
    | nil => simp [allGo, placed]
    | skip hs _ => have := (step_skip hs).1; simp only [List.length_nil] at this; omega
    | tok hs _ => have := (step_tok hs).1; simp only [List.length_nil] at this; omega
  | f + 1, l, ss, h, i, p, last, out, hl => by
    cases h with
    | nil => simp [allGo, placed]
    | skip hs h1 =>
      have hn := (step_skip hs).1
      cases l with
      | nil => simp only [List.length_nil] at hn; omega
      | cons a r =>
        simp only [allGo, hs]
        rw [allGo_of f _ _ h1 _ _ _ _ (by rw [List.length_drop]; omega)]
        rfl
    | tok hs h1 =>
      have hn := (step_tok hs).1
      cases l with
      | nil => simp only [List.length_nil] at hn; omega
      | cons a r =>
        simp only [allGo, hs]
        rw [allGo_of f _ _ h1 _ _ _ _ (by rw [List.length_drop]; omega), List.append_assoc]
        rfl
theorem allK_ok (l : List UInt8) (res : List Tp) (h : allK l = .ok res) : ∃ ss, Lexes l ss ∧ res = placed l ss 0 (1, 1) 0 := by
  obtain ⟨ss, h1, h2⟩ := allGo_ok _ _ _ _ _ _ _ (Nat.le_refl _) h
  exact ⟨ss, h1, by simpa using h2⟩
theorem allK_of (l : List UInt8) (ss : List (Option Tk × Nat)) (h : Lexes l ss) : allK l = .ok (placed l ss 0 (1, 1) 0) := by
  have := allGo_of _ _ _ h 0 (1, 1) 0 [] (Nat.le_refl _)
  simpa [allK] using this

/-! ## Places -/
theorem overB_pos (p : Nat × Nat) (c : UInt8) (h : 1 ≤ p.1 ∧ 1 ≤ p.2) : 1 ≤ (overB p c).1 ∧ 1 ≤ (overB p c).2 := by
  unfold overB
  split
  · exact ⟨by simp, by simp⟩
  · split
    · exact ⟨h.1, by simp only; omega⟩
    · exact ⟨h.1, by simp⟩
theorem overL_pos : ∀ (l : List UInt8) (p : Nat × Nat), 1 ≤ p.1 ∧ 1 ≤ p.2 → 1 ≤ (overL p l).1 ∧ 1 ≤ (overL p l).2
  | [], _, h => h
  | c :: l, p, h => overL_pos l _ (overB_pos p c h)
/-- What is said of each token's place: n bytes in all, the one ahead's line and place. -/
def PlacesGo (n : Nat) : Option (Nat × Nat) → List Tp → Prop
  | _, [] => True
  | o, x :: l => (x.first = match o with | none => true | some (a, _) => a != x.line) ∧ (match o with | none => True | some (_, b) => b < x.at_) ∧ x.at_ < n ∧ 1 ≤ x.line ∧ 1 ≤ x.col ∧ PlacesGo n (some (x.line, x.at_)) l
theorem placed_places : ∀ (l : List UInt8) (ss : List (Option Tk × Nat)), Lexes l ss → ∀ (i : Nat) (p : Nat × Nat) (last n : Nat) (o : Option (Nat × Nat)), i + l.length = n → 1 ≤ p.1 ∧ 1 ≤ p.2 →
    (match o with | none => last = 0 | some (a, b) => a = last ∧ b < i) → PlacesGo n o (placed l ss i p last) := by
  intro l ss h
  induction h with
  | nil => intros; exact trivial
  | skip hs _ ih =>
    intro i p last n o hl hp ho
    have hn := (step_skip hs).1
    refine ih _ _ _ _ _ (by rw [List.length_drop]; omega) (overL_pos _ _ hp) ?_
    cases o with
    | none => exact ho
    | some q => exact ⟨ho.1, by omega⟩
  | tok hs _ ih =>
    intro i p last n o hl hp ho
    have hn := (step_tok hs).1
    refine ⟨?_, ?_, by show i < n; omega, hp.1, hp.2, ih _ _ _ _ _ (by rw [List.length_drop]; omega) (overL_pos _ _ hp) ⟨rfl, by show i < _; omega⟩⟩
    · cases o with
      | none => simp only at ho; subst ho; simp; omega
      | some q => simp only at ho ⊢; rw [← ho.1]; exact bne_comm
    · cases o with
      | none => trivial
      | some q => exact ho.2
/-- The same by indexes. -/
def PlaceAt (n : Nat) (l : List Tp) (k : Nat) (h : k < l.length) : Prop :=
  (l[k].first = (k == 0 || (match l[k - 1]? with | some x => x.line != l[k].line | none => true))) ∧ (∀ h' : 0 < k, (l[k - 1]).at_ < l[k].at_) ∧ l[k].at_ < n ∧ 1 ≤ l[k].line ∧ 1 ≤ l[k].col
theorem places_at : ∀ (l : List Tp) (n : Nat) (o : Option (Nat × Nat)), PlacesGo n o l → ∀ k (h : k < l.length),
    (l[k].first = if k = 0 then (match o with | none => true | some (a, _) => a != l[k].line) else (match l[k - 1]? with | some x => x.line != l[k].line | none => true)) ∧ (∀ h' : 0 < k, (l[k - 1]).at_ < l[k].at_) ∧ l[k].at_ < n ∧ 1 ≤ l[k].line ∧ 1 ≤ l[k].col
  | [], _, _, _, k, h => by simp at h
  | x :: l, n, o, hp, 0, h => by
    obtain ⟨h1, h2, h3, h4, h5, h6⟩ := hp
    exact ⟨by simpa using h1, fun h' => by omega, h3, h4, h5⟩
  | x :: l, n, o, hp, k + 1, h => by
    obtain ⟨h1, h2, h3, h4, h5, h6⟩ := hp
    have hk : k < l.length := by simpa using h
    obtain ⟨g1, g2, g3, g4, g5⟩ := places_at l n _ h6 k hk
    refine ⟨?_, fun h' => ?_, g3, g4, g5⟩
    · rw [if_neg (by omega)]
      simp only [List.getElem_cons_succ, Nat.add_sub_cancel]
      rw [g1]
      cases k with
      | zero => simp
      | succ k => simp
    · simp only [List.getElem_cons_succ, Nat.add_sub_cancel]
      cases k with
      | zero =>
        cases l with
        | nil => simp at hk
        | cons y l => obtain ⟨_, q, _⟩ := h6; exact q
      | succ k => exact g2 (by omega)
theorem placeAt_of {n : Nat} {l : List Tp} (hp : PlacesGo n none l) (k : Nat) (h : k < l.length) : PlaceAt n l k h := by
  obtain ⟨g1, g2⟩ := places_at l n none hp k h
  refine ⟨?_, g2⟩
  rw [g1]
  cases k with
  | zero => simp
  | succ k => simp

/-! ## Between -/
def lens : List (Option Tk × Nat) → Nat
  | [] => 0
  | s :: ss => s.2 + lens ss
theorem Lexes.le {l : List UInt8} {ss : List (Option Tk × Nat)} (h : Lexes l ss) : lens ss = l.length := by
  induction h with
  | nil => rfl
  | skip hs _ ih => have := (step_skip hs).1; rw [List.length_drop] at ih; simp only [lens]; omega
  | tok hs _ ih => have := (step_tok hs).1; rw [List.length_drop] at ih; simp only [lens]; omega
theorem Lexes.tok_pos {l : List UInt8} {t : Tk} {n : Nat} {ss : List (Option Tk × Nat)} (h : Lexes l ((some t, n) :: ss)) : 1 ≤ n := by
  generalize hs : (some t, n) :: ss = x at h
  cases h with
  | nil => cases hs
  | skip _ _ => cases hs
  | tok g _ => cases hs; exact (step_tok g).1.1
/-- The first steps are those of the text that is cut behind them. -/
theorem Lexes.cut : ∀ {aa bb : List (Option Tk × Nat)} {l : List UInt8}, Lexes l (aa ++ bb) → Lexes (l.take (lens aa)) aa ∧ Lexes (l.drop (lens aa)) bb
  | [], bb, l, h => ⟨by simpa [lens] using Lexes.nil, by simpa [lens] using h⟩
  | (none, n) :: aa, bb, l, h => by
    cases h with
    | skip hs h1 =>
      obtain ⟨i1, i2⟩ := Lexes.cut h1
      have hn := step_skip hs
      simp only [lens]
      refine ⟨.skip (hn.2 _ (by omega)) ?_, ?_⟩
      · rw [List.drop_take, Nat.add_sub_cancel_left]; exact i1
      · rw [← List.drop_drop]; exact i2
  | (some t, n) :: aa, bb, l, h => by
    cases h with
    | tok hs h1 =>
      obtain ⟨i1, i2⟩ := Lexes.cut h1
      have hn := step_tok hs
      simp only [lens]
      refine ⟨.tok (hn.2 _ (by omega)) ?_, ?_⟩
      · rw [List.drop_take, Nat.add_sub_cancel_left]; exact i1
      · rw [← List.drop_drop]; exact i2
theorem placed_blank : ∀ {aa : List (Option Tk × Nat)}, (∀ s ∈ aa, s.1 = none) → ∀ l i p last, placed l aa i p last = []
  | [], _, _, _, _, _ => rfl
  | (none, n) :: aa, h, l, i, p, last => placed_blank (fun s hs => h s (List.mem_cons_of_mem _ hs)) _ _ _ _
  | (some t, n) :: aa, h, _, _, _, _ => by have := h _ List.mem_cons_self; cases this

/-- Each token stands alone between its place and the next one's; ahead of the first one there is none. -/
def Alone (l : List UInt8) : Nat → List Tp → Prop
  | i, [] => ∀ bb, bb = l.drop i → allK bb = .ok []
  | i, x :: r => i ≤ x.at_ ∧ x.at_ < l.length ∧ allK ((l.take x.at_).drop i) = .ok [] ∧ AloneT l x r
where AloneT (l : List UInt8) : Tp → List Tp → Prop
  | x, [] => allK (l.drop x.at_) = .ok [⟨x.t, 0, 1, 1, true⟩]
  | x, y :: r => x.at_ < y.at_ ∧ y.at_ < l.length ∧ allK ((l.take y.at_).drop x.at_) = .ok [⟨x.t, 0, 1, 1, true⟩] ∧ AloneT l y r
/-- Steps up to the next token. -/
theorem next_tok : ∀ (ss : List (Option Tk × Nat)), (∀ s ∈ ss, s.1 = none) ∨ ∃ aa t n bb, ss = aa ++ (some t, n) :: bb ∧ ∀ s ∈ aa, s.1 = none
  | [] => .inl (by simp)
  | (some t, n) :: ss => .inr ⟨[], t, n, ss, rfl, by simp⟩
  | (none, n) :: ss => by
    rcases next_tok ss with h | ⟨aa, t, m, bb, rfl, h⟩
    · exact .inl fun s hs => by
        rcases List.mem_cons.1 hs with rfl | hs
        · rfl
        · exact h s hs
    · exact .inr ⟨(none, n) :: aa, t, m, bb, rfl, fun s hs => by
        rcases List.mem_cons.1 hs with rfl | hs
        · rfl
        · exact h s hs⟩
theorem placed_app : ∀ (aa bb : List (Option Tk × Nat)) (l : List UInt8) (i : Nat) (p : Nat × Nat) (last : Nat), (∀ s ∈ aa, s.1 = none) →
    ∃ p', placed l (aa ++ bb) i p last = placed (l.drop (lens aa)) bb (i + lens aa) p' last
  | [], bb, l, i, p, last, _ => ⟨p, by simp [lens]⟩
  | (none, n) :: aa, bb, l, i, p, last, h => by
    obtain ⟨p', e⟩ := placed_app aa bb (l.drop n) (i + n) (overL p (l.take n)) last fun s hs => h s (List.mem_cons_of_mem _ hs)
    refine ⟨p', ?_⟩
    show placed (l.drop n) (aa ++ bb) (i + n) (overL p (l.take n)) last = _
    rw [e, List.drop_drop]
    simp only [lens, Nat.add_assoc]
  | (some t, n) :: aa, _, _, _, _, _, h => by have := h _ List.mem_cons_self; cases this

theorem aloneT_of (L : List UInt8) : ∀ (m : Nat) (ss : List (Option Tk × Nat)), ss.length ≤ m → ∀ (t : Tk) (n i ln cl : Nat) (fs : Bool) (p : Nat × Nat) (last : Nat), Lexes (L.drop i) ((some t, n) :: ss) → i < L.length →
    Alone.AloneT L ⟨t, i, ln, cl, fs⟩ (placed ((L.drop i).drop n) ss (i + n) p last)
  | m, ss, hm, t, n, i, ln, cl, fs, p, last, h, hi => by
    rcases next_tok ss with hb | ⟨aa, t', n', bb, rfl, hb⟩
    · rw [placed_blank hb]
      show allK (L.drop i) = _
      rw [allK_of _ _ h]
      show Except.ok (⟨t, 0, 1, 1, true⟩ :: placed _ ss _ _ _) = _
      rw [placed_blank hb]
    · obtain ⟨p', e⟩ := placed_app aa ((some t', n') :: bb) ((L.drop i).drop n) (i + n) p last hb
      rw [e]
      have hsplit : (some t, n) :: (aa ++ (some t', n') :: bb) = ((some t, n) :: aa) ++ (some t', n') :: bb := rfl
      rw [hsplit] at h
      obtain ⟨c1, c2⟩ := Lexes.cut h
      simp only [lens] at c1 c2
      have hlen := c2.le
      have hn' : 1 ≤ n' := c2.tok_pos
      have hn : 1 ≤ n := h.tok_pos
      simp only [lens, List.length_drop] at hlen
      rw [List.drop_drop] at c2
      have key := aloneT_of L (m - 1) bb (by simp only [List.length_append, List.length_cons] at hm; omega) t' n' (i + (n + lens aa)) p'.1 p'.2 (p'.1 != last) (overL p' ((L.drop (i + (n + lens aa))).take n')) p'.1 c2 (by omega)
      have e2 : ((L.drop i).drop n).drop (lens aa) = L.drop (i + (n + lens aa)) := by rw [List.drop_drop, List.drop_drop]
      rw [e2, show i + n + lens aa = i + (n + lens aa) by omega]
      refine ⟨by show i < i + (n + lens aa); omega, by show i + (n + lens aa) < L.length; omega, ?_, key⟩
      show allK ((L.take (i + (n + lens aa))).drop i) = _
      rw [List.drop_take, Nat.add_sub_cancel_left, allK_of _ _ c1]
      show Except.ok (⟨t, 0, 1, 1, true⟩ :: placed _ aa _ _ _) = _
      rw [placed_blank hb]
theorem alone_of (L : List UInt8) (ss : List (Option Tk × Nat)) (h : Lexes L ss) : Alone L 0 (placed L ss 0 (1, 1) 0) := by
  rcases next_tok ss with hb | ⟨aa, t', n', bb, rfl, hb⟩
  · rw [placed_blank hb]
    intro l hl
    rw [hl, List.drop_zero, allK_of _ _ h, placed_blank hb]
  · obtain ⟨p', e⟩ := placed_app aa ((some t', n') :: bb) L 0 (1, 1) 0 hb
    rw [e, Nat.zero_add]
    obtain ⟨c1, c2⟩ := Lexes.cut h
    have hlen := c2.le
    have hn' : 1 ≤ n' := c2.tok_pos
    simp only [lens, List.length_drop] at hlen
    refine ⟨Nat.zero_le _, by show lens aa < _; omega, ?_, aloneT_of L bb.length bb (Nat.le_refl _) _ _ _ _ _ _ _ _ c2 (by omega)⟩
    show allK ((L.take (lens aa)).drop 0) = _
    rw [List.drop_zero, allK_of _ _ c1, placed_blank hb]
end Go.Proofs.YtnidkdjapieinaaDoor
