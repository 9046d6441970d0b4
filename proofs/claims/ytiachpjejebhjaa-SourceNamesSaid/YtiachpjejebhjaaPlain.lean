/- Plain mathematics of a text's lines, places and columns (lists of bytes; no program in sight). -/
import Derived.Lib.IndexLaws
namespace Go.Proofs.Ytiachpjejebhjaa

/-- The column behind a byte. -/
def nextC (col c : Int) : Int := if c = 9 then col + 8 - (col - 1) % 8 else col + 1

theorem nextC_tab {col c : Int} (h : c = 9) : nextC col c = col + 8 - (col - 1) % 8 := by rw [nextC, if_pos h]
theorem nextC_not {col c : Int} (h : ¬ c = 9) : nextC col c = col + 1 := by rw [nextC, if_neg h]
theorem nextC_bd (col c : Int) : col + 1 ≤ nextC col c ∧ nextC col c ≤ col + 8 := by
  unfold nextC; split <;> omega

/-- Line and column behind one byte more. -/
def stepP (p : Nat × Int) (c : UInt8) : Nat × Int := if c = 10 then (p.1 + 1, 1) else (p.1, nextC p.2 c.toNat)
/-- Line and column of place k. -/
def posR (l : List UInt8) (k : Nat) : Nat × Int := (l.take k).foldl stepP (1, 1)

theorem posR_zero (l : List UInt8) : posR l 0 = (1, 1) := rfl
theorem posR_succ (l : List UInt8) (k : Nat) (h : k < l.length) : posR l (k + 1) = stepP (posR l k) l[k] := by
  unfold posR; rw [List.take_succ_eq_append_getElem h, List.foldl_append]; rfl
theorem posR_ten (l : List UInt8) (k : Nat) (h : k < l.length) (h10 : l[k] = 10) : posR l (k + 1) = ((posR l k).1 + 1, 1) := by
  rw [posR_succ l k h, stepP, if_pos h10]
theorem posR_not (l : List UInt8) (k : Nat) (h : k < l.length) (h10 : ¬ l[k] = 10) : posR l (k + 1) = ((posR l k).1, nextC (posR l k).2 l[k].toNat) := by
  rw [posR_succ l k h, stepP, if_neg h10]

theorem posR_bd (l : List UInt8) : ∀ k, k ≤ l.length → 1 ≤ (posR l k).1 ∧ (posR l k).1 ≤ k + 1 ∧ 1 ≤ (posR l k).2 ∧ (posR l k).2 ≤ 8 * k + 1
  | 0, _ => by simp [posR_zero]
  | k + 1, h => by
    have ih := posR_bd l k (by omega)
    by_cases h10 : l[k] = 10
    · rw [posR_ten l k h h10]; simp only; omega
    · rw [posR_not l k h h10]; have := nextC_bd (posR l k).2 l[k].toNat; simp only; omega

/-- A later place lies on a later line, or on the same one at a later column. -/
theorem posR_lt (l : List UInt8) (j : Nat) : ∀ k, j < k → k ≤ l.length → (posR l j).1 < (posR l k).1 ∨ ((posR l j).1 = (posR l k).1 ∧ (posR l j).2 < (posR l k).2)
  | 0, h, _ => by omega
  | k + 1, h, hk => by
    have step : (posR l k).1 < (posR l (k+1)).1 ∨ ((posR l k).1 = (posR l (k+1)).1 ∧ (posR l k).2 < (posR l (k+1)).2) := by
      by_cases h10 : l[k] = 10
      · rw [posR_ten l k hk h10]; left; simp
      · rw [posR_not l k hk h10]; right; have := nextC_bd (posR l k).2 l[k].toNat; simp only; exact ⟨trivial, by omega⟩
    by_cases hj : j = k
    · subst hj; exact step
    · have ih := posR_lt l j k (by omega) (by omega)
      omega

theorem posR_inj (l : List UInt8) (j k : Nat) (hj : j ≤ l.length) (hk : k ≤ l.length) (h : posR l j = posR l k) : j = k := by
  rcases Nat.lt_trichotomy j k with h' | h' | h'
  · have := posR_lt l j k h' hk; rw [h] at this; omega
  · exact h'
  · have := posR_lt l k j h' hj; rw [h] at this; omega

/-! ### The lines, as pairs: where each begins, and where it ends. -/
def segsGo (f p : Nat) : List UInt8 → List (Nat × Nat)
  | [] => [(f, p)]
  | c :: cs => if c = 10 then (f, p) :: segsGo (p + 1) (p + 1) cs else segsGo f (p + 1) cs
def segs (l : List UInt8) : List (Nat × Nat) := segsGo 0 0 l

theorem segsGo_none : ∀ (cs : List UInt8) (f p : Nat), (∀ k : Nat, cs[k]? ≠ some (10 : UInt8)) → segsGo f p cs = [(f, p + cs.length)]
  | [], f, p, _ => rfl
  | c :: cs, f, p, h => by
    have h0 : ¬ c = 10 := fun e => h 0 (by simp [e])
    rw [segsGo, if_neg h0, segsGo_none cs f (p + 1) (fun k => by have := h (k + 1); simpa using this)]
    simp; omega

theorem segsGo_some : ∀ (cs : List UInt8) (f p n : Nat), cs[n]? = some (10 : UInt8) → (∀ k : Nat, k < n → cs[k]? ≠ some (10 : UInt8)) →
    segsGo f p cs = (f, p + n) :: segsGo (p + n + 1) (p + n + 1) (cs.drop (n + 1))
  | [], f, p, n, h, _ => by simp at h
  | c :: cs, f, p, 0, h, _ => by
    have h0 : c = 10 := by simpa using h
    rw [segsGo, if_pos h0]; simp
  | c :: cs, f, p, n + 1, h, hk => by
    have h0 : ¬ c = 10 := fun e => hk 0 (by omega) (by simp [e])
    rw [segsGo, if_neg h0, segsGo_some cs f (p + 1) n (by simpa using h) (fun k hkn => by have := hk (k + 1) (by omega); simpa using this)]
    simp only [List.drop_succ_cons]
    rw [show p + 1 + n = p + (n + 1) from by omega]

/-- What every line is: where it begins, that no byte 10 lies in it, and what is behind it. -/
theorem segsGo_mem (l : List UInt8) : ∀ (cs : List UInt8) (f p m : Nat) (pre : List (Nat × Nat)) (x : Nat × Nat) (rest : List (Nat × Nat)),
    l.drop p = cs → p ≤ l.length → f ≤ p → (∀ (k : Nat) (h : k < l.length), f ≤ k → k < p → ¬ l[k] = 10) → posR l f = (m + 1, 1) →
    segsGo f p cs = pre ++ x :: rest →
    x.1 ≤ x.2 ∧ x.2 ≤ l.length ∧ f ≤ x.1 ∧ posR l x.1 = (m + pre.length + 1, 1) ∧ (∀ (k : Nat) (h : k < l.length), x.1 ≤ k → k < x.2 → ¬ l[k] = 10) ∧
    (rest = [] → x.2 = l.length) ∧ (rest ≠ [] → ∃ h : x.2 < l.length, l[x.2] = 10) ∧ (∀ y ∈ pre, y.2 < x.1)
  | [], f, p, m, pre, x, rest, hd, hp, hf, hno, hpos, he => by
    have hlen : l.length ≤ p := by simpa [List.drop_eq_nil_iff] using hd
    rw [segsGo] at he
    cases pre with
    | nil =>
      simp at he; obtain ⟨rfl, rfl⟩ := he
      exact ⟨hf, hp, Nat.le_refl _, by simpa using hpos, hno, fun _ => by simp; omega, fun h => absurd rfl h, by simp⟩
    | cons a pre => simp at he
  | c :: cs, f, p, m, pre, x, rest, hd, hp, hf, hno, hpos, he => by
    have hlt : p < l.length := by
      rcases Nat.lt_or_ge p l.length with h | h
      · exact h
      · rw [List.drop_eq_nil_of_le h] at hd; cases hd
    have hc : l[p] = c := by
      rw [List.drop_eq_getElem_cons hlt] at hd; exact (List.cons.inj hd).1
    have hd' : l.drop (p + 1) = cs := by
      rw [List.drop_eq_getElem_cons hlt] at hd; exact (List.cons.inj hd).2
    have hposp : ∀ k, f ≤ k → k ≤ p → (posR l k).1 = m + 1 := by
      intro k hk1 hk2
      induction k with
      | zero => obtain rfl : f = 0 := by omega
                rw [hpos]
      | succ k ih =>
        by_cases e : f = k + 1
        · subst e; rw [hpos]
        · have := ih (by omega) (by omega)
          rw [posR_not l k (by omega) (hno k (by omega) (by omega) (by omega))]; exact this
    rw [segsGo] at he
    by_cases h10 : c = 10
    · rw [if_pos h10] at he
      have hpos' : posR l (p + 1) = (m + 1 + 1, 1) := by rw [posR_ten l p hlt (by rw [hc]; exact h10), hposp p hf (Nat.le_refl _)]
      cases pre with
      | nil =>
        simp at he; obtain ⟨rfl, hr⟩ := he
        refine ⟨hf, hp, Nat.le_refl _, by simpa using hpos, hno, fun h => ?_, fun _ => ⟨hlt, by simp [hc, h10]⟩, by simp⟩
        subst h; exfalso
        cases cs with
        | nil => simp [segsGo] at hr
        | cons d ds => rw [segsGo] at hr; split at hr
                       · simp at hr
                       · exact segsGo_ne ds _ _ hr
      | cons a pre =>
        simp at he; obtain ⟨rfl, hr⟩ := he
        obtain ⟨r1, r2, r3, r4, r5, r6, r7, r8⟩ := segsGo_mem l cs (p + 1) (p + 1) (m + 1) pre x rest hd' hlt (Nat.le_refl _) (fun k _ h1 h2 => by omega) hpos' hr
        refine ⟨r1, r2, by omega, by rw [r4]; simp; omega, r5, r6, r7, ?_⟩
        intro y hy
        rcases List.mem_cons.1 hy with rfl | hy
        · simp; omega
        · exact r8 y hy
    · rw [if_neg h10] at he
      exact segsGo_mem l cs f (p + 1) m pre x rest hd' hlt (by omega) (fun k h h1 h2 => by
        by_cases e : k = p
        · subst e; rw [hc]; exact h10
        · exact hno k h h1 (by omega)) hpos he
where
  segsGo_ne : ∀ (ds : List UInt8) (f p : Nat), segsGo f p ds = [] → False
    | [], f, p, h => by simp [segsGo] at h
    | d :: ds, f, p, h => by rw [segsGo] at h; split at h
                             · simp at h
                             · exact segsGo_ne ds _ _ h

theorem segs_mem (l : List UInt8) (pre : List (Nat × Nat)) (x : Nat × Nat) (rest : List (Nat × Nat)) (he : segs l = pre ++ x :: rest) :
    x.1 ≤ x.2 ∧ x.2 ≤ l.length ∧ posR l x.1 = (pre.length + 1, 1) ∧ (∀ (k : Nat) (h : k < l.length), x.1 ≤ k → k < x.2 → ¬ l[k] = 10) ∧
    (rest = [] → x.2 = l.length) ∧ (rest ≠ [] → ∃ h : x.2 < l.length, l[x.2] = 10) ∧ (∀ y ∈ pre, y.2 < x.1) := by
  obtain ⟨r1, r2, _, r4, r5, r6, r7, r8⟩ := segsGo_mem l l 0 0 0 pre x rest rfl (Nat.zero_le _) (Nat.le_refl _) (fun k _ _ h => by omega) rfl he
  exact ⟨r1, r2, by rw [r4]; simp, r5, r6, r7, r8⟩

theorem segsGo_len : ∀ (cs : List UInt8) (f p : Nat), (segsGo f p cs).length ≤ cs.length + 1
  | [], f, p => by simp [segsGo]
  | c :: cs, f, p => by
    rw [segsGo]; split
    · have := segsGo_len cs (p + 1) (p + 1); simp; omega
    · have := segsGo_len cs f (p + 1); simp; omega
theorem segs_len (l : List UInt8) : (segs l).length ≤ l.length + 1 := segsGo_len l 0 0

/-- The column of place k, told from f on. -/
def colFrom (l : List UInt8) (f k : Nat) : Int := ((l.take k).drop f).foldl (fun col c => nextC col c.toNat) 1
theorem colFrom_self (l : List UInt8) (f k : Nat) (h : k ≤ f) : colFrom l f k = 1 := by
  unfold colFrom; rw [List.drop_eq_nil_of_le (by rw [List.length_take]; omega)]; rfl
theorem colFrom_succ (l : List UInt8) (f k : Nat) (h : f ≤ k) (hk : k < l.length) : colFrom l f (k + 1) = nextC (colFrom l f k) l[k].toNat := by
  unfold colFrom
  rw [List.take_succ_eq_append_getElem hk, List.drop_append_of_le_length (by rw [List.length_take]; omega), List.foldl_append]; rfl
theorem colFrom_bd (l : List UInt8) (f : Nat) : ∀ k, k ≤ l.length → 1 ≤ colFrom l f k ∧ colFrom l f k ≤ 8 * k + 1
  | 0, _ => by rw [colFrom_self l f 0 (Nat.zero_le _)]; omega
  | k + 1, h => by
    by_cases hf : f ≤ k
    · have ih := colFrom_bd l f k (by omega)
      rw [colFrom_succ l f k hf h]; have := nextC_bd (colFrom l f k) l[k].toNat; omega
    · rw [colFrom_self l f (k + 1) (by omega)]; omega

/-- In a line the column is told from the line's beginning. -/
theorem posR_line (l : List UInt8) (f m : Nat) (hf : posR l f = (m, 1)) : ∀ k, f ≤ k → k ≤ l.length → (∀ (j : Nat) (h : j < l.length), f ≤ j → j < k → ¬ l[j] = 10) → posR l k = (m, colFrom l f k)
  | 0, h, _, _ => by obtain rfl : f = 0 := by omega
                     rw [hf, colFrom_self l 0 0 (Nat.le_refl _)]
  | k + 1, h, hk, hno => by
    by_cases e : f = k + 1
    · subst e; rw [hf, colFrom_self l _ _ (Nat.le_refl _)]
    · rw [posR_not l k hk (hno k hk (by omega) (by omega)), posR_line l f m hf k (by omega) (by omega) (fun j h h1 h2 => hno j h h1 (by omega)), colFrom_succ l f k (by omega) hk]

/-- The first line that does not end ahead of k is k's line. -/
theorem segs_where (l : List UInt8) (k : Nat) (pre : List (Nat × Nat)) (x : Nat × Nat) (hp : pre ++ [x] <+: segs l) (h1 : ∀ y ∈ pre, y.2 < k) (h2 : k ≤ x.2) :
    posR l k = (pre.length + 1, colFrom l x.1 k) := by
  obtain ⟨rest, hr⟩ := hp
  have hr' : segs l = pre ++ x :: rest := by rw [← hr]; simp
  obtain ⟨a1, a2, a3, a4, _, _, _⟩ := segs_mem l pre x rest hr'
  refine posR_line l x.1 _ a3 k ?_ (by omega) (fun j h h1 h2 => a4 j h h1 (by omega))
  cases hpre : pre.reverse with
  | nil =>
    have : pre = [] := by simpa using hpre
    subst this
    cases hl : l with
    | nil => rw [hl] at hr'; simp [segs, segsGo] at hr'; rw [← hr'.1]; exact Nat.zero_le _
    | cons c cs => have := segs_first l (by simpa using hr'); omega
  | cons y ys =>
    have hpre' : pre = ys.reverse ++ [y] := by have := congrArg List.reverse hpre; simpa using this
    subst hpre'
    have hr2 : segs l = ys.reverse ++ y :: (x :: rest) := by rw [hr']; simp
    have := h1 y (by simp)
    have h3 := segs_next l ys.reverse y x rest hr2
    omega
where
  segs_first (l : List UInt8) {x : Nat × Nat} {rest : List (Nat × Nat)} (h : segs l = x :: rest) : x.1 = 0 := by
    have h3 := (segs_mem l [] x rest h).2.2.1
    rcases Nat.eq_zero_or_pos x.1 with e | e
    · exact e
    · have := segs_mem l [] x rest h
      have hlt := posR_lt l 0 x.1 e (by omega)
      rw [h3, posR_zero] at hlt; simp at hlt
  segs_next (l : List UInt8) (pre : List (Nat × Nat)) (y x : Nat × Nat) (rest : List (Nat × Nat)) (h : segs l = pre ++ y :: x :: rest) : x.1 = y.2 + 1 := by
    have hy := segs_mem l pre y (x :: rest) h
    have hx := segs_mem l (pre ++ [y]) x rest (by rw [h]; simp)
    obtain ⟨hlt, h10⟩ := hy.2.2.2.2.2.1 (by simp)
    have hn : posR l (y.2 + 1) = (pre.length + 1 + 1, 1) := by
      rw [posR_ten l y.2 hlt h10, posR_line l y.1 _ hy.2.2.1 y.2 hy.1 (by omega) (fun j h h1 h2 => hy.2.2.2.1 j h h1 h2)]
    have hx3 := hx.2.2.1
    exact posR_inj l _ _ (by omega) (by omega) (by rw [hx3, hn]; simp)

/-- The last line ends where the text does. -/
theorem segs_end (l : List UInt8) : ∃ y ∈ segs l, y.2 = l.length := by
  have hne : segs l ≠ [] := fun h => segsGo_mem.segsGo_ne l 0 0 h
  refine ⟨(segs l).getLast hne, List.getLast_mem hne, ?_⟩
  have h := (List.dropLast_concat_getLast hne).symm
  exact (segs_mem l (segs l).dropLast ((segs l).getLast hne) [] h).2.2.2.2.1 rfl

end Go.Proofs.Ytiachpjejebhjaa
