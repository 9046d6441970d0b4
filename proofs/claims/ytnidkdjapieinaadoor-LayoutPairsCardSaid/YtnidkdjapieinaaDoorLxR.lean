/- Plain laws on telling tokens as a text and reading them again (no program in sight). -/
import Derived.Test.YtnidkdjapieinaaDoorLxQ
namespace Go.Proofs.YtnidkdjapieinaaDoor
set_option linter.unusedSimpArgs false

/-- A number's digits. -/
def digsGo : Nat → Nat → List UInt8
  | 0, n => [UInt8.ofNat (48 + n % 10)]
  | f + 1, n => if n < 10 then [UInt8.ofNat (48 + n)] else digsGo f (n / 10) ++ [UInt8.ofNat (48 + n % 10)]
def digsK (n : Nat) : List UInt8 := digsGo 20 n
/-- A character as it is told between quotes. -/
def shownK (q : Nat) (c : UInt8) : List UInt8 :=
  if c.toNat = q ∨ c.toNat = 92 then [92, c] else if 32 ≤ c.toNat ∧ c.toNat ≤ 126 then [c] else 92 :: digsK c.toNat ++ (if q = 34 then [92, 38] else [])
def shownL (q : Nat) : List UInt8 → List UInt8
  | [] => []
  | c :: l => shownK q c ++ shownL q l
/-- A lexeme of a token. -/
def txtK (t : Tk) : List UInt8 :=
  if t.kind = 5 then digsK t.num
  else if t.kind = 6 then 39 :: shownK 39 (UInt8.ofNat (min 255 t.num)) ++ [39]
  else if t.kind = 7 then 34 :: shownL 34 t.text ++ [34]
  else if 1 ≤ t.kind ∧ t.kind ≤ 10 then t.text else []
def joinK : List Tk → List UInt8
  | [] => []
  | [t] => txtK t
  | t :: l => txtK t ++ 32 :: joinK l

/-- What may stand behind a lexeme: nothing, or a blank. -/
def Ends (r : List UInt8) : Prop := r = [] ∨ ∃ r', r = 32 :: r'
theorem Ends.head {r : List UInt8} (h : Ends r) (p : Nat → Bool) (hp : p 32 = false) : ∀ c ∈ r.head?, p c.toNat = false := by
  rcases h with rfl | ⟨r', rfl⟩
  · simp
  · intro c hc
    simp at hc
    subst hc
    exact hp

theorem dig_of (d : Nat) (h : d < 10) : (UInt8.ofNat (48 + d)).toNat = 48 + d := by
  simp; omega
theorem digsGo_ne : ∀ f n, digsGo f n ≠ []
  | 0, _ => by simp [digsGo]
  | f + 1, n => by simp only [digsGo]; split <;> simp
theorem digsGo_dig : ∀ f n, ∀ c ∈ digsGo f n, digN c.toNat = true
  | 0, n, c, h => by
    simp only [digsGo, List.mem_singleton] at h
    subst h
    rw [dig_of _ (by omega)]
    simp [digN]; omega
  | f + 1, n, c, h => by
    simp only [digsGo] at h
    split at h
    · simp only [List.mem_singleton] at h
      subst h
      rw [dig_of _ (by omega)]
      simp [digN]; omega
    · rcases List.mem_append.1 h with h | h
      · exact digsGo_dig f _ c h
      · simp only [List.mem_singleton] at h
        subst h
        rw [dig_of _ (by omega)]
        simp [digN]; omega
theorem hexV_dig (d : Nat) (h : d < 10) : hexV (UInt8.ofNat (48 + d)).toNat = d := by
  rw [dig_of _ h]
  unfold hexV
  rw [if_pos (by simp [digN]; omega)]
  omega
theorem wholeGo_app : ∀ (b : Nat) (l r : List UInt8) (x y : Nat), wholeGo b l x = some y → wholeGo b (l ++ r) x = wholeGo b r y
  | b, [], r, x, y, h => by simp only [wholeGo, Option.some.injEq] at h; subst h; rfl
  | b, c :: l, r, x, y, h => by
    simp only [wholeGo] at h
    rw [List.cons_append, wholeGo]
    split at h
    · cases h
    · rename_i g
      rw [if_neg g]
      exact wholeGo_app b l r _ _ h
theorem whole_digs : ∀ (f n : Nat), n ≤ 9223372036854775807 → n < 10 ^ (f + 1) → wholeGo 10 (digsGo f n) 0 = some n
  | 0, n, h, h' => by
    have hn : n % 10 = n := Nat.mod_eq_of_lt (by simpa using h')
    simp only [digsGo, wholeGo, hn]
    rw [hexV_dig n (by simpa using h'), if_neg (by omega)]
    simp
  | f + 1, n, h, h' => by
    simp only [digsGo]
    by_cases hn : n < 10
    · rw [if_pos hn]
      simp only [wholeGo]
      rw [hexV_dig n hn, if_neg (by omega)]
      simp
    · rw [if_neg hn]
      have ih := whole_digs f (n / 10) (by omega) (by rw [Nat.pow_succ] at h'; omega)
      rw [wholeGo_app _ _ _ _ _ ih]
      simp only [wholeGo]
      rw [hexV_dig _ (by omega), if_neg (by omega)]
      congr 1
      omega
theorem digsK_dig (n : Nat) : ∀ c ∈ digsK n, digN c.toNat = true := digsGo_dig _ _
theorem whole_digsK (n : Nat) (h : n ≤ 9223372036854775807) : wholeK 10 (digsK n) = some n := whole_digs 20 n h (by omega)
theorem digs_cons (n : Nat) : ∃ a r, digsK n = a :: r ∧ digN a.toNat = true := by
  cases h : digsK n with
  | nil => exact absurd h (digsGo_ne _ _)
  | cons a r => exact ⟨a, r, rfl, digsK_dig n a (by rw [h]; simp)⟩
theorem whole_le : ∀ (b : Nat) (l : List UInt8) (x y : Nat), 0 < b → x ≤ 9223372036854775807 → (∀ c ∈ l, hexV c.toNat ≤ 16) → wholeGo b l x = some y → y ≤ 9223372036854775807
  | b, [], x, y, _, hx, _, h => by simp only [wholeGo, Option.some.injEq] at h; omega
  | b, c :: l, x, y, hb, hx, hl, h => by
    simp only [wholeGo] at h
    split at h
    · cases h
    · rename_i g
      have h16 := hl c (by simp)
      refine whole_le b l _ y hb ?_ (fun c hc => hl c (List.mem_cons_of_mem _ hc)) h
      have : x ≤ (9223372036854775807 - hexV c.toNat) / b := by omega
      have := (Nat.le_div_iff_mul_le hb).1 this
      omega
theorem hexV_16 (n : Nat) : hexV n ≤ 16 := by
  unfold hexV
  split
  · rename_i h; simp [digN] at h; omega
  · split
    · rename_i h; simp at h; omega
    · split
      · rename_i h; simp at h; omega
      · omega
theorem wholeK_le {b : Nat} {l : List UInt8} {y : Nat} (hb : 0 < b) (h : wholeK b l = some y) : y ≤ 9223372036854775807 :=
  whole_le b l 0 y hb (by omega) (fun c _ => hexV_16 _) h

/-- A token as a text has it. -/
def Wf (t : Tk) : Prop :=
  (t.kind = 1 ∧ t.num = 0 ∧ t.text ∉ wordsL ∧ (∃ a r, t.text = a :: r ∧ smallN a.toNat = true) ∧ ∀ c ∈ t.text, nameN c.toNat = true) ∨
  (t.kind = 9 ∧ t.num = 0 ∧ t.text ∈ wordsL ∧ (∃ a r, t.text = a :: r ∧ smallN a.toNat = true) ∧ ∀ c ∈ t.text, nameN c.toNat = true) ∨
  (t.kind = 2 ∧ t.num = 0 ∧ (∃ a r, t.text = a :: r ∧ capN a.toNat = true) ∧ ∀ c ∈ t.text, nameN c.toNat = true) ∨
  (t.num = 0 ∧ (∃ a r, t.text = a :: r ∧ t.kind = if a.toNat = 58 then 4 else if t.text ∈ signsL then 10 else 3) ∧ (∀ c ∈ t.text, symN c.toNat = true) ∧ ¬ (2 ≤ t.text.length ∧ dashes t.text = true)) ∨
  (t.kind = 5 ∧ t.text = [] ∧ t.num ≤ 9223372036854775807) ∨
  (t.kind = 6 ∧ t.text = [] ∧ t.num ≤ 255) ∨
  (t.kind = 7 ∧ t.num = 0) ∨
  (t.kind = 8 ∧ t.num = 0 ∧ ∃ a, t.text = [a] ∧ markN a.toNat = true)

theorem textGo_wf : ∀ (f : Nat) (l b : List UInt8) (i : Nat) (t : Tk) (n : Nat), textGo f l b i = .tok t n → t.kind = 7 ∧ t.num = 0
  | 0, _, _, _, _, _, h => by cases h
  | f + 1, [], _, _, _, _, h => by cases h
  | f + 1, a :: r, b, i, t, n, h => by
    simp only [textGo] at h
    split at h
    · cases h; exact ⟨rfl, rfl⟩
    · split at h
      · exact textGo_wf f _ _ _ _ _ h
      · split at h
        · cases h
        · exact textGo_wf f _ _ _ _ _ h
theorem take_cons_pos (a : UInt8) (r : List UInt8) (n : Nat) (h : 0 < n) : (a :: r).take n = a :: r.take (n - 1) := by
  obtain ⟨n, rfl⟩ : ∃ m, n = m + 1 := ⟨n - 1, by omega⟩
  rfl
theorem one_wf (l : List UInt8) (t : Tk) (n : Nat) (hr : remarkK l = 0) (h : oneK l = .tok t n) : Wf t := by
  cases l with
  | nil => cases h
  | cons a r =>
    simp only [oneK] at h
    cases e1 : nameK (a :: r) with
    | bad => rw [e1] at h; cases h
    | tok t' n' =>
      rw [e1] at h
      cases h
      cases hq : smallN a.toNat with
      | false => simp [nameK, hq] at e1
      | true =>
        simp only [nameK, hq, if_true, Fd.tok.injEq] at e1
        obtain ⟨rfl, rfl⟩ := e1
        have z := spanP_pos nameN a r (nameN_small _ hq)
        have e := take_cons_pos a r _ z
        by_cases hm : (a :: r).take (spanB nameN (a :: r)) ∈ wordsL
        · exact .inr (.inl ⟨by simp only; rw [if_pos hm], rfl, hm, ⟨a, _, e, hq⟩, spanP_all _ _⟩)
        · exact .inl ⟨by simp only; rw [if_neg hm], rfl, hm, ⟨a, _, e, hq⟩, spanP_all _ _⟩
    | no =>
    rw [e1] at h
    simp only [Fd.or] at h
    cases e2 : conK (a :: r) with
    | bad => rw [e2] at h; cases h
    | tok t' n' =>
      rw [e2] at h
      cases h
      cases hq : capN a.toNat with
      | false => simp [conK, hq] at e2
      | true =>
        simp only [conK, hq, if_true, Fd.tok.injEq] at e2
        obtain ⟨rfl, rfl⟩ := e2
        have z := spanP_pos nameN a r (nameN_cap _ hq)
        exact .inr (.inr (.inl ⟨rfl, rfl, ⟨a, _, take_cons_pos a r _ z, hq⟩, spanP_all _ _⟩))
    | no =>
    rw [e2] at h
    simp only [Fd.or] at h
    cases e3 : symbolK (a :: r) with
    | bad => rw [e3] at h; cases h
    | tok t' n' =>
      rw [e3] at h
      cases h
      cases hq : symN a.toNat with
      | false => simp only [symbolK, spanP_zero _ _ _ hq, if_true] at e3; cases e3
      | true =>
        have z := spanP_pos symN a r hq
        simp only [symbolK, if_neg (Nat.pos_iff_ne_zero.1 z), Fd.tok.injEq] at e3
        obtain ⟨rfl, rfl⟩ := e3
        refine .inr (.inr (.inr (.inl ⟨rfl, ⟨a, _, take_cons_pos a r _ z, rfl⟩, spanP_all _ _, ?_⟩)))
        rintro ⟨g1, g2⟩
        simp only [List.length_take] at g1 g2
        have := span_nl (a :: r)
        unfold remarkK at hr
        rw [if_pos ⟨by omega, g2⟩] at hr
        omega
    | no =>
    rw [e3] at h
    simp only [Fd.or] at h
    cases e4 : numberK (a :: r) with
    | bad => rw [e4] at h; cases h
    | tok t' n' =>
      rw [e4] at h
      cases h
      cases hq : digN a.toNat with
      | false => simp [numberK, hq] at e4
      | true =>
        simp only [numberK, hq, if_true] at e4
        split at e4
        · obtain ⟨rfl, x, hx, rfl⟩ := fdNum_tok e4
          exact .inr (.inr (.inr (.inr (.inl ⟨rfl, rfl, wholeK_le (by omega) hx⟩))))
        · obtain ⟨rfl, x, hx, rfl⟩ := fdNum_tok e4
          exact .inr (.inr (.inr (.inr (.inl ⟨rfl, rfl, wholeK_le (by omega) hx⟩))))
    | no =>
    rw [e4] at h
    simp only [Fd.or] at h
    cases e5 : charTK (a :: r) with
    | bad => rw [e5] at h; cases h
    | tok t' n' =>
      rw [e5] at h
      cases h
      simp only [charTK] at e5
      split at e5
      · split at e5
        · cases e5
        · rename_i c m hc
          split at e5
          · cases e5
          · split at e5
            · cases e5
              exact .inr (.inr (.inr (.inr (.inr (.inl ⟨rfl, rfl, (char_take _ _ _ _ hc).2.1⟩)))))
            · cases e5
      · cases e5
    | no =>
    rw [e5] at h
    simp only [Fd.or] at h
    cases e6 : textK (a :: r) with
    | bad => rw [e6] at h; cases h
    | tok t' n' =>
      rw [e6] at h
      cases h
      simp only [textK] at e6
      split at e6
      · obtain ⟨g1, g2⟩ := textGo_wf _ _ _ _ _ _ e6
        exact .inr (.inr (.inr (.inr (.inr (.inr (.inl ⟨g1, g2⟩))))))
      · cases e6
    | no =>
    rw [e6] at h
    simp only [Fd.or, markK] at h
    split at h
    · rename_i hq
      cases h
      exact .inr (.inr (.inr (.inr (.inr (.inr (.inr ⟨rfl, rfl, a, rfl, hq⟩))))))
    · cases h

/-! ## Reading a lexeme again -/
theorem blank_no (a : UInt8) (h : blankN a.toNat = false) (l : List UInt8) : ¬ 0 < spanB blankN (a :: l) := by rw [spanP_zero _ _ _ h]; omega
theorem remark_no (a : UInt8) (l : List UInt8) (h : symN a.toNat = false) (h2 : a.toNat ≠ 123) : remarkK (a :: l) = 0 := by
  unfold remarkK
  rw [spanP_zero _ _ _ h, if_neg (by omega), if_neg]
  intro g
  cases l with
  | nil => simp at g
  | cons b l => simp only [List.take_succ_cons, List.cons.injEq] at g; exact h2 (by rw [g.1]; rfl)
theorem step_of (a : UInt8) (l : List UInt8) (t : Tk) (n : Nat) (hb : blankN a.toNat = false) (hr : remarkK (a :: l) = 0) (ho : oneK (a :: l) = .tok t n) : step1 (a :: l) = .tok t n := by
  unfold step1
  rw [if_neg (blank_no a hb l), hr, if_neg (by omega), if_neg (by omega), ho]
theorem take_len_app (l r : List UInt8) : (l ++ r).take l.length = l := by simp
/-- The kinds of bytes exclude each other. -/
theorem byte_excl (c : UInt8) : (smallN c.toNat = true → blankN c.toNat = false ∧ symN c.toNat = false ∧ c.toNat ≠ 123) ∧ (capN c.toNat = true → blankN c.toNat = false ∧ symN c.toNat = false ∧ c.toNat ≠ 123 ∧ smallN c.toNat = false) ∧
    (symN c.toNat = true → blankN c.toNat = false ∧ c.toNat ≠ 123 ∧ smallN c.toNat = false ∧ capN c.toNat = false) ∧ (digN c.toNat = true → blankN c.toNat = false ∧ symN c.toNat = false ∧ c.toNat ≠ 123 ∧ smallN c.toNat = false ∧ capN c.toNat = false) ∧
    (markN c.toNat = true → blankN c.toNat = false ∧ symN c.toNat = false ∧ smallN c.toNat = false ∧ capN c.toNat = false ∧ digN c.toNat = false ∧ c.toNat ≠ 39 ∧ c.toNat ≠ 34) := by
  have h1 : ∀ n, n < 256 → (smallN n = true → blankN n = false ∧ symN n = false ∧ n ≠ 123) := by decide +kernel
  have h2 : ∀ n, n < 256 → (capN n = true → blankN n = false ∧ symN n = false ∧ n ≠ 123 ∧ smallN n = false) := by decide +kernel
  have h3 : ∀ n, n < 256 → (symN n = true → blankN n = false ∧ n ≠ 123 ∧ smallN n = false ∧ capN n = false) := by decide +kernel
  have h4 : ∀ n, n < 256 → (digN n = true → blankN n = false ∧ symN n = false ∧ n ≠ 123 ∧ smallN n = false ∧ capN n = false) := by decide +kernel
  have h5 : ∀ n, n < 256 → (markN n = true → blankN n = false ∧ symN n = false ∧ smallN n = false ∧ capN n = false) := by decide +kernel
  have h6 : ∀ n, n < 256 → (markN n = true → digN n = false ∧ n ≠ 39 ∧ n ≠ 34) := by decide +kernel
  have hc := UInt8.toNat_lt c
  exact ⟨h1 _ hc, h2 _ hc, h3 _ hc, h4 _ hc, fun h => ⟨(h5 _ hc h).1, (h5 _ hc h).2.1, (h5 _ hc h).2.2.1, (h5 _ hc h).2.2.2, h6 _ hc h⟩⟩

theorem back_small (t : Tk) (r : List UInt8) (he : Ends r) (a : UInt8) (u : List UInt8) (ht : t.text = a :: u) (ha : smallN a.toNat = true) (hall : ∀ c ∈ t.text, nameN c.toNat = true) :
    step1 (t.text ++ r) = .tok ⟨if t.text ∈ wordsL then 9 else 1, t.text, 0⟩ t.text.length := by
  have hs := spanP_append nameN t.text r hall (he.head nameN rfl)
  have hk := take_len_app t.text r
  rw [ht] at hs hk ⊢
  obtain ⟨x1, x2, x3⟩ := (byte_excl a).1 ha
  rw [List.cons_append] at hs hk ⊢
  refine step_of a _ _ _ x1 (remark_no a _ x2 x3) ?_
  simp only [oneK, nameK, List.cons_append, ha, if_true, hs, hk, Fd.or]
theorem back_cap (t : Tk) (r : List UInt8) (he : Ends r) (a : UInt8) (u : List UInt8) (ht : t.text = a :: u) (ha : capN a.toNat = true) (hall : ∀ c ∈ t.text, nameN c.toNat = true) :
    step1 (t.text ++ r) = .tok ⟨2, t.text, 0⟩ t.text.length := by
  have hs := spanP_append nameN t.text r hall (he.head nameN rfl)
  have hk := take_len_app t.text r
  rw [ht] at hs hk ⊢
  obtain ⟨x1, x2, x3, x4⟩ := (byte_excl a).2.1 ha
  rw [List.cons_append] at hs hk ⊢
  refine step_of a _ _ _ x1 (remark_no a _ x2 x3) ?_
  have e1 : nameK (a :: (u ++ r)) = .no := by simp [nameK, x4]
  have e2 : conK (a :: (u ++ r)) = .tok ⟨2, a :: u, 0⟩ (a :: u).length := by simp only [conK, ha, if_true, hs, hk]
  simp only [oneK, List.cons_append]
  rw [e1, e2]; rfl
theorem back_sym (t : Tk) (r : List UInt8) (he : Ends r) (a : UInt8) (u : List UInt8) (ht : t.text = a :: u) (hall : ∀ c ∈ t.text, symN c.toNat = true) (hd : ¬ (2 ≤ t.text.length ∧ dashes t.text = true)) :
    step1 (t.text ++ r) = .tok ⟨if a.toNat = 58 then 4 else if t.text ∈ signsL then 10 else 3, t.text, 0⟩ t.text.length := by
  have hs := spanP_append symN t.text r hall (he.head symN rfl)
  have hk := take_len_app t.text r
  have hr : remarkK (t.text ++ r) = 0 := by
    unfold remarkK
    rw [hs, hk, if_neg hd, if_neg]
    intro g
    rw [ht] at g hall
    have := hall a (by simp)
    cases u with
    | nil =>
      cases r with
      | nil => simp at g
      | cons b r => simp only [List.cons_append, List.nil_append, List.take_succ_cons, List.cons.injEq] at g; rw [g.1] at this; exact absurd this (by decide)
    | cons b u => simp only [List.cons_append, List.take_succ_cons, List.cons.injEq] at g; rw [g.1] at this; exact absurd this (by decide)
  rw [ht] at hs hk hr hall ⊢
  obtain ⟨x1, x2, x3, x4⟩ := (byte_excl a).2.2.1 (hall a (by simp))
  rw [List.cons_append] at hs hk hr ⊢
  refine step_of a _ _ _ x1 hr ?_
  have e1 : nameK (a :: (u ++ r)) = .no := by simp [nameK, x3]
  have e2 : conK (a :: (u ++ r)) = .no := by simp [conK, x4]
  have e3 : symbolK (a :: (u ++ r)) = .tok ⟨if a.toNat = 58 then 4 else if (a :: u) ∈ signsL then 10 else 3, a :: u, 0⟩ (a :: u).length := by
    simp only [symbolK, hs, hk]
    rw [if_neg (by simp)]
  simp only [oneK, List.cons_append]
  rw [e1, e2, e3]; rfl
theorem or_no {f : Fd} (h : f = .no) (g : Fd) : f.or g = g := by rw [h]; rfl
theorem pre_no (a : UInt8) (l : List UInt8) (h1 : smallN a.toNat = false) (h2 : capN a.toNat = false) (h3 : symN a.toNat = false) :
    oneK (a :: l) = (numberK (a :: l)).or ((charTK (a :: l)).or ((textK (a :: l)).or (markK (a :: l)))) := by
  unfold oneK
  rw [or_no (by simp [nameK, h1]), or_no (by simp [conK, h2]), or_no (by simp [symbolK, spanP_zero _ _ _ h3])]
theorem back_num (n : Nat) (hn : n ≤ 9223372036854775807) (r : List UInt8) (he : Ends r) : step1 (digsK n ++ r) = .tok ⟨5, [], n⟩ (digsK n).length := by
  have hall := digsK_dig n
  have hs := spanP_append digN (digsK n) r hall (he.head digN rfl)
  have hk := take_len_app (digsK n) r
  have hw := whole_digsK n hn
  obtain ⟨a, u, ht, ha⟩ := digs_cons n
  have h120 : ∀ c ∈ digsK n, c ≠ 120 := fun c hc e => by have := hall c hc; rw [e] at this; exact absurd this (by decide)
  rw [ht] at hs hk hw h120 ⊢
  obtain ⟨x1, x2, x3, x4, x5⟩ := (byte_excl a).2.2.2.1 ha
  rw [List.cons_append] at hs hk ⊢
  refine step_of a _ _ _ x1 (remark_no a _ x2 x3) ?_
  rw [pre_no a _ x4 x5 x2]
  have e : numberK (a :: (u ++ r)) = .tok ⟨5, [], n⟩ (a :: u).length := by
    simp only [numberK, ha, if_true]
    rw [if_neg, hs, hk, hw]
    · rfl
    · rintro ⟨g1, g2⟩
      cases u with
      | nil =>
        rcases he with rfl | ⟨r', rfl⟩
        · simp at g1
        · simp only [List.nil_append, List.take_succ_cons, List.cons.injEq] at g1
          exact absurd g1.2.1 (by decide)
      | cons b u =>
        simp only [List.cons_append, List.take_succ_cons, List.cons.injEq] at g1
        exact h120 b (by simp) g1.2.1
  rw [e]; rfl
theorem back_mark (a : UInt8) (r : List UInt8) (he : Ends r) (ha : markN a.toNat = true) : step1 (a :: r) = .tok ⟨8, [a], 0⟩ 1 := by
  obtain ⟨x1, x2, x3, x4, x5, x6, x7⟩ := (byte_excl a).2.2.2.2 ha
  refine step_of a _ _ _ x1 ?_ ?_
  · unfold remarkK
    rw [spanP_zero _ _ _ x2, if_neg (by omega), if_neg]
    intro g
    rcases he with rfl | ⟨r', rfl⟩
    · simp at g
    · simp only [List.take_succ_cons, List.cons.injEq] at g; exact absurd g.2.1 (by decide)
  · rw [pre_no a _ x3 x4 x2, or_no (by simp [numberK, x5]), or_no (by simp [charTK, x6]), or_no (by simp [textK, x7])]
    simp only [markK, ha, if_true]

/-- The character that is told between quotes is read again. -/
theorem char_digs (q : Nat) (x : Nat) (hx : x ≤ 255) (hq : q = 39 ∨ q = 34) (r : List UInt8) (hr : ∀ c ∈ r.head?, digN c.toNat = false) :
    charK (92 :: digsK x ++ r) q = some (x, 1 + (digsK x).length) := by
  have hall := digsK_dig x
  have hs := spanP_append digN (digsK x) r hall hr
  have hk := take_len_app (digsK x) r
  have hw := whole_digsK x (by omega)
  obtain ⟨a, u, ht, ha⟩ := digs_cons x
  rw [ht] at hs hk hw ⊢
  have hlen : (a :: u).length ≠ 0 := by simp
  rw [List.cons_append] at hs hk
  have ha2 : 48 ≤ a.toNat ∧ a.toNat ≤ 57 := by simpa [digN] using ha
  simp only [List.cons_append, charK]
  rw [if_neg (by rcases hq with rfl | rfl <;> decide), if_neg (by decide), if_neg (by omega), if_neg (by omega), if_neg (by omega), if_neg (by omega), hs, if_neg hlen, hk, hw]
  simp only
  rw [if_neg (by omega)]
theorem char_shown (c : UInt8) (r : List UInt8) : charK (shownK 39 c ++ 39 :: r) 39 = some (c.toNat, (shownK 39 c).length) ∧ (1 ≤ (shownK 39 c).length) := by
  unfold shownK
  by_cases h1 : c.toNat = 39 ∨ c.toNat = 92
  · rw [if_pos h1]
    refine ⟨?_, by simp⟩
    simp only [List.cons_append, List.nil_append, charK, List.length_cons, List.length_nil]
    rw [if_neg (by decide), if_neg (by decide), if_neg (by omega), if_neg (by omega), if_pos (by omega)]
  · rw [if_neg h1]
    by_cases h2 : 32 ≤ c.toNat ∧ c.toNat ≤ 126
    · rw [if_pos h2]
      refine ⟨?_, by simp⟩
      simp only [List.cons_append, List.nil_append, charK, List.length_cons, List.length_nil]
      rw [if_neg (by omega), if_pos (by omega)]
    · rw [if_neg h2, if_neg (by decide), List.append_nil]
      refine ⟨?_, by simp⟩
      have h255 := UInt8.toNat_lt c
      rw [char_digs 39 c.toNat (by omega) (.inl rfl) (39 :: r) (by intro c hc; cases hc; decide), List.length_cons]
      congr 2
      omega
theorem back_char (c : UInt8) (r : List UInt8) : step1 (39 :: shownK 39 c ++ [39] ++ r) = .tok ⟨6, [], c.toNat⟩ ((shownK 39 c).length + 2) := by
  obtain ⟨h1, h2⟩ := char_shown c r
  have e0 : 39 :: shownK 39 c ++ [39] ++ r = 39 :: (shownK 39 c ++ 39 :: r) := by simp
  rw [e0]
  refine step_of 39 _ _ _ (by decide) (remark_no _ _ (by decide) (by decide)) ?_
  rw [pre_no 39 _ (by decide) (by decide) (by decide), or_no (by simp [numberK, digN])]
  have e : charTK (39 :: (shownK 39 c ++ 39 :: r)) = .tok ⟨6, [], c.toNat⟩ ((shownK 39 c).length + 2) := by
    simp only [charTK]
    rw [if_pos (by decide), h1]
    simp only
    rw [List.drop_left]
    simp
  rw [e]; rfl

theorem gap_none (a : UInt8) (l : List UInt8) (h : a.toNat ≠ 92) : gapK (a :: l) = 0 := by simp only [gapK]; rw [if_neg h]
theorem gap_none2 (b : UInt8) (l : List UInt8) (h : b.toNat ≠ 38) (h2 : blankN b.toNat = false) : gapK (92 :: b :: l) = 0 := by
  simp only [gapK]
  rw [if_pos (by decide), if_neg h, if_pos (spanP_zero _ _ _ h2)]
theorem shown_len (q : Nat) : ∀ l : List UInt8, l.length ≤ (shownL q l).length
  | [] => Nat.le_refl _
  | c :: l => by
    have := shown_len q l
    simp only [shownL, List.length_append, List.length_cons]
    have : 1 ≤ (shownK q c).length := by
      unfold shownK
      split
      · simp
      · split
        · simp
        · simp
    omega
theorem ofNat_toNat (c : UInt8) : UInt8.ofNat c.toNat = c := by simp
theorem back_text : ∀ (u : List UInt8) (f : Nat) (b : List UInt8) (i : Nat) (r : List UInt8), (shownL 34 u).length < f →
    textGo f (shownL 34 u ++ 34 :: r) b i = .tok ⟨7, b ++ u, 0⟩ (i + (shownL 34 u).length + 1)
  | [], f + 1, b, i, r, _ => by
    simp only [shownL, List.nil_append, textGo]
    rw [if_pos (by decide)]
    simp
  | c :: u, f + 1, b, i, r, hf => by
    have h255 := UInt8.toNat_lt c
    simp only [shownL, List.append_assoc, List.length_append] at hf ⊢
    by_cases h1 : c.toNat = 34 ∨ c.toNat = 92
    · have e : shownK 34 c = [92, c] := by unfold shownK; rw [if_pos h1]
      rw [e] at hf ⊢
      simp only [List.cons_append, List.nil_append, List.length_cons, List.length_nil] at hf ⊢
      have hch : charK (92 :: c :: (shownL 34 u ++ 34 :: r)) 34 = some (c.toNat, 2) := by
        simp only [charK]
        rw [if_neg (by decide), if_neg (by decide), if_neg (by omega), if_neg (by omega), if_pos (by omega)]
      have hg : gapK (92 :: c :: (shownL 34 u ++ 34 :: r)) = 0 := gap_none2 _ _ (by omega) (by rcases h1 with h | h <;> (rw [h]; decide))
      simp only [textGo]
      rw [if_neg (by decide), hg, if_neg (fun h => h rfl), hch]
      simp only [List.drop_succ_cons, List.drop_zero]
      rw [back_text u f _ _ _ (by omega), ofNat_toNat]
      simp only [List.append_assoc, List.cons_append, List.nil_append]
      congr 1; omega
    · by_cases h2 : 32 ≤ c.toNat ∧ c.toNat ≤ 126
      · have e : shownK 34 c = [c] := by unfold shownK; rw [if_neg h1, if_pos h2]
        rw [e] at hf ⊢
        simp only [List.cons_append, List.nil_append, List.length_cons, List.length_nil] at hf ⊢
        have hch : charK (c :: (shownL 34 u ++ 34 :: r)) 34 = some (c.toNat, 1) := by
          simp only [charK]
          rw [if_neg (by omega), if_pos (by omega)]
        simp only [textGo]
        rw [if_neg (by omega), gap_none _ _ (by omega), if_neg (fun h => h rfl), hch]
        simp only [List.drop_succ_cons, List.drop_zero]
        rw [back_text u f _ _ _ (by omega), ofNat_toNat]
        simp only [List.append_assoc, List.cons_append, List.nil_append]
        congr 1; omega
      · have e : shownK 34 c = 92 :: digsK c.toNat ++ [92, 38] := by unfold shownK; rw [if_neg h1, if_neg h2, if_pos rfl]
        rw [e] at hf ⊢
        have hch := char_digs 34 c.toNat (by omega) (.inr rfl) (92 :: 38 :: (shownL 34 u ++ 34 :: r)) (by intro c hc; cases hc; decide)
        obtain ⟨d, ds, hd, hdd⟩ := digs_cons c.toNat
        have hlen : (digsK c.toNat).length = ds.length + 1 := by rw [hd]; rfl
        obtain ⟨x1, x2, x3, x4, x5⟩ := (byte_excl d).2.2.2.1 hdd
        have hd2 : 48 ≤ d.toNat ∧ d.toNat ≤ 57 := by simpa [digN] using hdd
        have e0 : 92 :: digsK c.toNat ++ [92, 38] ++ (shownL 34 u ++ 34 :: r) = 92 :: digsK c.toNat ++ 92 :: 38 :: (shownL 34 u ++ 34 :: r) := by simp
        simp only [List.length_append, List.length_cons, List.length_nil] at hf ⊢
        rw [e0]
        have hg : gapK (92 :: digsK c.toNat ++ 92 :: 38 :: (shownL 34 u ++ 34 :: r)) = 0 := by
          rw [hd]; exact gap_none2 _ _ (by omega) x1
        obtain ⟨f, rfl⟩ : ∃ g, f = g + 1 := ⟨f - 1, by omega⟩
        have hdrop : (92 :: digsK c.toNat ++ 92 :: 38 :: (shownL 34 u ++ 34 :: r)).drop (1 + (digsK c.toNat).length) = 92 :: 38 :: (shownL 34 u ++ 34 :: r) := by
          rw [show 1 + (digsK c.toNat).length = (92 :: digsK c.toNat).length by simp; omega]
          exact List.drop_left
        have hcons : 92 :: digsK c.toNat ++ 92 :: 38 :: (shownL 34 u ++ 34 :: r) = 92 :: (digsK c.toNat ++ 92 :: 38 :: (shownL 34 u ++ 34 :: r)) := rfl
        rw [hcons] at hg hch hdrop ⊢
        simp only [textGo]
        rw [if_neg (by decide), hg, if_neg (fun h => h rfl), hch]
        simp only
        rw [hdrop]
        have hg2 : gapK (92 :: 38 :: (shownL 34 u ++ 34 :: r)) = 2 := by
          simp only [gapK]; rw [if_pos (by decide), if_pos (by decide)]
        simp only [textGo]
        rw [if_neg (by decide), hg2, if_pos (by omega)]
        simp only [List.drop_succ_cons, List.drop_zero]
        rw [back_text u f _ _ _ (by omega), ofNat_toNat]
        simp only [List.append_assoc, List.cons_append, List.nil_append]
        congr 1; omega
theorem back_str (u r : List UInt8) : step1 (34 :: shownL 34 u ++ [34] ++ r) = .tok ⟨7, u, 0⟩ ((shownL 34 u).length + 2) := by
  have e0 : 34 :: shownL 34 u ++ [34] ++ r = 34 :: (shownL 34 u ++ 34 :: r) := by simp
  rw [e0]
  refine step_of 34 _ _ _ (by decide) (remark_no _ _ (by decide) (by decide)) ?_
  rw [pre_no 34 _ (by decide) (by decide) (by decide), or_no (by simp [numberK, digN]), or_no (by simp [charTK])]
  have e : textK (34 :: (shownL 34 u ++ 34 :: r)) = .tok ⟨7, u, 0⟩ ((shownL 34 u).length + 2) := by
    simp only [textK]
    rw [if_pos (by decide), back_text _ _ _ _ _ (by simp only [List.length_cons, List.length_append]; omega), List.nil_append]
    congr 1; omega
  rw [e]; rfl

/-- A lexeme is told, and read again. -/
theorem back_one (t : Tk) (h : Wf t) (r : List UInt8) (he : Ends r) : step1 (txtK t ++ r) = .tok t (txtK t).length ∧ ∃ a u, txtK t = a :: u ∧ blankN a.toNat = false := by
  obtain ⟨kind, text, num⟩ := t
  rcases h with ⟨h1, h2, h3, ⟨a, u, h4, h5⟩, h6⟩ | ⟨h1, h2, h3, ⟨a, u, h4, h5⟩, h6⟩ | ⟨h1, h2, ⟨a, u, h4, h5⟩, h6⟩ | ⟨h1, ⟨a, u, h2, h3⟩, h4, h5⟩ | ⟨h1, h2, h3⟩ | ⟨h1, h2, h3⟩ | ⟨h1, h2⟩ | ⟨h1, h2, a, h3, h4⟩ <;> simp only at *
  · subst h1 h2
    have e : txtK ⟨1, text, 0⟩ = text := by simp [txtK]
    rw [e]
    have := back_small ⟨1, text, 0⟩ r he a u h4 h5 h6
    simp only at this
    rw [if_neg h3] at this
    exact ⟨this, a, u, h4, ((byte_excl a).1 h5).1⟩
  · subst h1 h2
    have e : txtK ⟨9, text, 0⟩ = text := by simp [txtK]
    rw [e]
    have := back_small ⟨9, text, 0⟩ r he a u h4 h5 h6
    simp only at this
    rw [if_pos h3] at this
    exact ⟨this, a, u, h4, ((byte_excl a).1 h5).1⟩
  · subst h1 h2
    have e : txtK ⟨2, text, 0⟩ = text := by simp [txtK]
    rw [e]
    exact ⟨back_cap ⟨2, text, 0⟩ r he a u h4 h5 h6, a, u, h4, ((byte_excl a).2.1 h5).1⟩
  · subst h1
    have hk : kind = 3 ∨ kind = 4 ∨ kind = 10 := by 
      by_cases g1 : a.toNat = 58
      · rw [if_pos g1] at h3; exact .inr (.inl h3)
      · rw [if_neg g1] at h3
        by_cases g2 : text ∈ signsL
        · rw [if_pos g2] at h3; exact .inr (.inr h3)
        · rw [if_neg g2] at h3; exact .inl h3
    have e : txtK ⟨kind, text, 0⟩ = text := by rcases hk with rfl | rfl | rfl <;> simp [txtK]
    rw [e]
    have := back_sym ⟨kind, text, 0⟩ r he a u h2 h4 h5
    simp only at this
    rw [← h3] at this
    rw [h2] at h4
    exact ⟨this, a, u, h2, ((byte_excl a).2.2.1 (h4 a (by simp))).1⟩
  · subst h1 h2
    have e : txtK ⟨5, [], num⟩ = digsK num := by simp [txtK]
    rw [e]
    obtain ⟨a, u, hd, hdd⟩ := digs_cons num
    exact ⟨back_num num h3 r he, a, u, hd, ((byte_excl a).2.2.2.1 hdd).1⟩
  · subst h1 h2
    have e : txtK ⟨6, [], num⟩ = 39 :: shownK 39 (UInt8.ofNat num) ++ [39] := by simp [txtK, Nat.min_eq_right h3]
    rw [e]
    have := back_char (UInt8.ofNat num) r
    rw [show (UInt8.ofNat num).toNat = num by simp; omega] at this
    refine ⟨?_, 39, _, rfl, by decide⟩
    rw [this]; simp
  · subst h1 h2
    have e : txtK ⟨7, text, 0⟩ = 34 :: shownL 34 text ++ [34] := by simp [txtK]
    rw [e]
    refine ⟨?_, 34, _, rfl, by decide⟩
    rw [back_str text r]; simp
  · subst h1 h2 h3
    have e : txtK ⟨8, [a], 0⟩ = [a] := by simp [txtK]
    rw [e]
    exact ⟨back_mark a r he h4, a, [], rfl, ((byte_excl a).2.2.2.2 h4).1⟩

/-- The steps of a joined text. -/
def backS : List Tk → List (Option Tk × Nat)
  | [] => []
  | [t] => [(some t, (txtK t).length)]
  | t :: l => (some t, (txtK t).length) :: (none, 1) :: backS l
theorem joinK_cons (t u : Tk) (l : List Tk) : joinK (t :: u :: l) = txtK t ++ 32 :: joinK (u :: l) := rfl
theorem join_head : ∀ (l : List Tk), (∀ t ∈ l, Wf t) → l ≠ [] → ∃ a u, joinK l = a :: u ∧ blankN a.toNat = false
  | [], _, h => absurd rfl h
  | [t], h, _ => (back_one t (h t (by simp)) [] (.inl rfl)).2
  | t :: u :: l, h, _ => by
    obtain ⟨a, x, e, hb⟩ := (back_one t (h t (by simp)) [] (.inl rfl)).2
    exact ⟨a, _, by rw [joinK_cons, e]; rfl, hb⟩
theorem lexes_join : ∀ (l : List Tk), (∀ t ∈ l, Wf t) → Lexes (joinK l) (backS l)
  | [], _ => .nil
  | [t], h => by
    have := (back_one t (h t (by simp)) [] (.inl rfl)).1
    rw [List.append_nil] at this
    refine .tok this ?_
    show Lexes ((txtK t).drop _) []
    rw [List.drop_length]
    exact .nil
  | t :: u :: l, h => by
    have ht := (back_one t (h t (by simp)) (32 :: joinK (u :: l)) (.inr ⟨_, rfl⟩)).1
    have ih := lexes_join (u :: l) fun x hx => h x (List.mem_cons_of_mem _ hx)
    obtain ⟨a, x, e, hb⟩ := join_head (u :: l) (fun x hx => h x (List.mem_cons_of_mem _ hx)) (by simp)
    rw [joinK_cons]
    refine .tok ht ?_
    rw [List.drop_left]
    have hs : spanB blankN (32 :: joinK (u :: l)) = 1 := by
      rw [spanB, if_pos (by decide), e, spanP_zero _ _ _ hb]
    refine .skip (n := 1) ?_ ih
    unfold step1
    rw [hs, if_pos (by omega)]
def toks : List (Option Tk × Nat) → List Tk
  | [] => []
  | (none, _) :: ss => toks ss
  | (some t, _) :: ss => t :: toks ss
theorem placed_toks : ∀ (l : List UInt8) (ss : List (Option Tk × Nat)) (i : Nat) (p : Nat × Nat) (last : Nat), (placed l ss i p last).map Tp.t = toks ss
  | _, [], _, _, _ => rfl
  | l, (none, n) :: ss, i, p, last => placed_toks _ ss _ _ _
  | l, (some t, n) :: ss, i, p, last => by simp only [placed, List.map_cons, toks]; rw [placed_toks]
theorem toks_back : ∀ l : List Tk, toks (backS l) = l
  | [] => rfl
  | [t] => rfl
  | t :: u :: l => by show t :: toks (backS (u :: l)) = _; rw [toks_back]
theorem lexes_wf {l : List UInt8} {ss : List (Option Tk × Nat)} (h : Lexes l ss) : ∀ t ∈ toks ss, Wf t := by
  induction h with
  | nil => simp [toks]
  | skip _ _ ih => exact ih
  | @tok l t n ss hs _ ih =>
    intro x hx
    rcases List.mem_cons.1 hx with rfl | hx
    · unfold step1 at hs
      split at hs
      · cases hs
      · split at hs
        · cases hs
        · split at hs
          · cases hs
          · rename_i h1 h2 h3
            cases ho : oneK l with
            | no => rw [ho] at hs; cases hs
            | bad => rw [ho] at hs; cases hs
            | tok t' n' => rw [ho] at hs; cases hs; exact one_wf l _ _ (by omega) ho
    · exact ih x hx
/-- What is told and read again is the same, places aside. -/
theorem back_all (l : List UInt8) (res : List Tp) (h : allK l = .ok res) : ∃ res', allK (joinK (res.map Tp.t)) = .ok res' ∧ res'.map Tp.t = res.map Tp.t := by
  obtain ⟨ss, h1, rfl⟩ := allK_ok l res h
  rw [placed_toks]
  exact ⟨_, allK_of _ _ (lexes_join _ (lexes_wf h1)), by rw [placed_toks, toks_back]⟩
/-- The bytes that are told are printable ones. -/
theorem sym_print (c : UInt8) : (nameN c.toNat = true → 32 ≤ c.toNat ∧ c.toNat ≤ 126) ∧ (symN c.toNat = true → 32 ≤ c.toNat ∧ c.toNat ≤ 126) ∧ (digN c.toNat = true → 32 ≤ c.toNat ∧ c.toNat ≤ 126) ∧ (markN c.toNat = true → 32 ≤ c.toNat ∧ c.toNat ≤ 126) := by
  have h1 : ∀ n, n < 256 → (nameN n = true → 32 ≤ n ∧ n ≤ 126) := by decide +kernel
  have h2 : ∀ n, n < 256 → (symN n = true → 32 ≤ n ∧ n ≤ 126) := by decide +kernel
  have h3 : ∀ n, n < 256 → (digN n = true → 32 ≤ n ∧ n ≤ 126) := by decide +kernel
  have h4 : ∀ n, n < 256 → (markN n = true → 32 ≤ n ∧ n ≤ 126) := by decide +kernel
  have hc := UInt8.toNat_lt c
  exact ⟨h1 _ hc, h2 _ hc, h3 _ hc, h4 _ hc⟩
theorem shown_print (q : Nat) (c : UInt8) (hq : q = 34 ∨ q = 39) : ∀ x ∈ shownK q c, 32 ≤ x.toNat ∧ x.toNat ≤ 126 := by
  intro x hx
  unfold shownK at hx
  split at hx
  · rename_i h
    simp only [List.mem_cons, List.not_mem_nil, or_false] at hx
    rcases hx with rfl | rfl
    · decide
    · omega
  · split at hx
    · simp only [List.mem_singleton] at hx; subst hx; assumption
    · rcases List.mem_append.1 hx with hx | hx
      · rcases List.mem_cons.1 hx with rfl | hx
        · decide
        · exact (sym_print x).2.2.1 (digsK_dig _ x hx)
      · split at hx
        · simp only [List.mem_cons, List.not_mem_nil, or_false] at hx
          rcases hx with rfl | rfl <;> decide
        · simp at hx
theorem shownL_print (q : Nat) (hq : q = 34 ∨ q = 39) : ∀ (l : List UInt8), ∀ x ∈ shownL q l, 32 ≤ x.toNat ∧ x.toNat ≤ 126
  | [], x, hx => by simp [shownL] at hx
  | c :: l, x, hx => by
    rcases List.mem_append.1 hx with hx | hx
    · exact shown_print q c hq x hx
    · exact shownL_print q hq l x hx
theorem txt_print (t : Tk) (h : Wf t) : ∀ x ∈ txtK t, 32 ≤ x.toNat ∧ x.toNat ≤ 126 := by
  obtain ⟨kind, text, num⟩ := t
  intro x hx
  unfold txtK at hx
  simp only at hx
  split at hx
  · exact (sym_print x).2.2.1 (digsK_dig _ x hx)
  · split at hx
    · rcases List.mem_append.1 hx with hx | hx
      · rcases List.mem_cons.1 hx with rfl | hx
        · decide
        · exact shown_print 39 _ (.inr rfl) x hx
      · simp only [List.mem_singleton] at hx; subst hx; decide
    · split at hx
      · rcases List.mem_append.1 hx with hx | hx
        · rcases List.mem_cons.1 hx with rfl | hx
          · decide
          · exact shownL_print 34 (.inl rfl) _ x hx
        · simp only [List.mem_singleton] at hx; subst hx; decide
      · rename_i g1 g2 g3
        split at hx
        · rcases h with ⟨h1, h2, h3, h4, h6⟩ | ⟨h1, h2, h3, h4, h6⟩ | ⟨h1, h2, h4, h6⟩ | ⟨h1, h2, h4, h5⟩ | ⟨h1, h2, h3⟩ | ⟨h1, h2, h3⟩ | ⟨h1, h2⟩ | ⟨h1, h2, a, h3, h4⟩ <;> simp only at *
          · exact (sym_print x).1 (h6 x hx)
          · exact (sym_print x).1 (h6 x hx)
          · exact (sym_print x).1 (h6 x hx)
          · exact (sym_print x).2.1 (h4 x hx)
          · exact absurd h1 g1
          · exact absurd h1 g2
          · exact absurd h1 g3
          · rw [h3] at hx; simp only [List.mem_singleton] at hx; subst hx; exact (sym_print x).2.2.2 h4
        · simp at hx
theorem join_print : ∀ (l : List Tk), (∀ t ∈ l, Wf t) → ∀ x ∈ joinK l, 32 ≤ x.toNat ∧ x.toNat ≤ 126
  | [], _, x, hx => by simp [joinK] at hx
  | [t], h, x, hx => txt_print t (h t (by simp)) x hx
  | t :: u :: l, h, x, hx => by
    rw [joinK_cons] at hx
    rcases List.mem_append.1 hx with hx | hx
    · exact txt_print t (h t (by simp)) x hx
    · rcases List.mem_cons.1 hx with rfl | hx
      · decide
      · exact join_print (u :: l) (fun x hx => h x (List.mem_cons_of_mem _ hx)) x hx
theorem all_print (l : List UInt8) (res : List Tp) (h : allK l = .ok res) : ∀ x ∈ joinK (res.map Tp.t), 32 ≤ x.toNat ∧ x.toNat ≤ 126 := by
  obtain ⟨ss, h1, rfl⟩ := allK_ok l res h
  rw [placed_toks]
  exact join_print _ (lexes_wf h1)
end Go.Proofs.YtnidkdjapieinaaDoor
