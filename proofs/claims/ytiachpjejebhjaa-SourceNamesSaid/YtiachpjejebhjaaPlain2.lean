/- Plain mathematics: the lines of a text, joined by bytes 10, are the text. -/
import Derived.Test.YtiachpjejebhjaaPlain
namespace Go.Proofs.Ytiachpjejebhjaa

/-- What lies ahead of line n: the lines before it, joined. -/
def joinN (l : List UInt8) : Nat → List UInt8
  | 0 => []
  | n + 1 => l.take ((segs l)[n]?.getD (0, 0)).2

theorem segs_at (l : List UInt8) (n : Nat) (h : n < (segs l).length) : segs l = (segs l).take n ++ (segs l)[n] :: (segs l).drop (n + 1) := by
  rw [← List.drop_eq_getElem_cons h, List.take_append_drop]

/-- Line n of a text that has it. -/
theorem segs_facts (l : List UInt8) (n : Nat) (h : n < (segs l).length) :
    (segs l)[n].1 ≤ (segs l)[n].2 ∧ (segs l)[n].2 ≤ l.length ∧ posR l (segs l)[n].1 = (n + 1, 1) ∧ (∀ (k : Nat) (hk : k < l.length), (segs l)[n].1 ≤ k → k < (segs l)[n].2 → ¬ l[k] = 10) ∧
    (n + 1 = (segs l).length → (segs l)[n].2 = l.length) ∧ (n + 1 < (segs l).length → ∃ h : (segs l)[n].2 < l.length, l[(segs l)[n].2] = 10) := by
  obtain ⟨a1, a2, a3, a4, a5, a6, _⟩ := segs_mem l _ _ _ (segs_at l n h)
  have hl : ((segs l).take n).length = n := by rw [List.length_take]; omega
  rw [hl] at a3
  refine ⟨a1, a2, a3, a4, fun e => a5 (List.drop_eq_nil_of_le (by omega)), fun e => a6 (fun e' => ?_)⟩
  have := congrArg List.length e'
  rw [List.length_drop] at this; simp at this; omega

theorem segs_first (l : List UInt8) {x : Nat × Nat} {rest : List (Nat × Nat)} (h : segs l = x :: rest) : x.1 = 0 := by
  have h3 := (segs_mem l [] x rest h).2.2.1
  rcases Nat.eq_zero_or_pos x.1 with e | e
  · exact e
  · have := segs_mem l [] x rest h
    have hlt := posR_lt l 0 x.1 e (by omega)
    rw [h3, posR_zero] at hlt; simp at hlt
theorem segs_next (l : List UInt8) (pre : List (Nat × Nat)) (y x : Nat × Nat) (rest : List (Nat × Nat)) (h : segs l = pre ++ y :: x :: rest) : x.1 = y.2 + 1 := by
  have hy := segs_mem l pre y (x :: rest) h
  have hx := segs_mem l (pre ++ [y]) x rest (by rw [h]; simp)
  obtain ⟨hlt, h10⟩ := hy.2.2.2.2.2.1 (by simp)
  have hn : posR l (y.2 + 1) = (pre.length + 1 + 1, 1) := by
    rw [posR_ten l y.2 hlt h10, posR_line l y.1 _ hy.2.2.1 y.2 hy.1 (by omega) (fun j h h1 h2 => hy.2.2.2.1 j h h1 h2)]
  have hx3 := hx.2.2.1
  exact posR_inj l _ _ (by omega) (by omega) (by rw [hx3, hn]; simp)

theorem segs_zero (l : List UInt8) (h : 0 < (segs l).length) : (segs l)[0].1 = 0 := by
  have := segs_at l 0 h
  exact segs_first l (by simpa using this)

theorem segs_succ (l : List UInt8) (n : Nat) (h : n + 1 < (segs l).length) : (segs l)[n + 1].1 = (segs l)[n].2 + 1 := by
  refine segs_next l ((segs l).take n) (segs l)[n] (segs l)[n + 1] ((segs l).drop (n + 1 + 1)) ?_
  rw [← List.drop_eq_getElem_cons h, ← List.drop_eq_getElem_cons (by omega), List.take_append_drop]

theorem segs_pos (l : List UInt8) : 0 < (segs l).length := by
  rcases Nat.eq_zero_or_pos (segs l).length with h | h
  · exact (segsGo_mem.segsGo_ne l 0 0 (List.length_eq_zero_iff.1 h)).elim
  · exact h

/-- The bytes of a line. -/
def lineB (l : List UInt8) (x : Nat × Nat) : List UInt8 := (l.take x.2).drop x.1

theorem lineB_len (l : List UInt8) (x : Nat × Nat) (h : x.2 ≤ l.length) : (lineB l x).length = x.2 - x.1 := by
  unfold lineB; rw [List.length_drop, List.length_take, Nat.min_eq_left h]

theorem lineB_get (l : List UInt8) (x : Nat × Nat) (j : Nat) (hj : x.1 + j < x.2) : (lineB l x)[j]? = l[x.1 + j]? := by
  unfold lineB; rw [List.getElem?_drop, List.getElem?_take_of_lt hj]

theorem joinN_first (l : List UInt8) (h : 0 < (segs l).length) : joinN l 1 = lineB l (segs l)[0] := by
  simp only [joinN, lineB, List.getElem?_eq_getElem h, Option.getD_some]
  rw [segs_zero l h, List.drop_zero]

theorem joinN_next (l : List UInt8) (n : Nat) (h : n + 1 < (segs l).length) : joinN l (n + 1 + 1) = joinN l (n + 1) ++ [10] ++ lineB l (segs l)[n + 1] := by
  obtain ⟨b1, b2, _, _, _, b6⟩ := segs_facts l n (by omega)
  obtain ⟨c1, c2, _, _, _, _⟩ := segs_facts l (n + 1) h
  obtain ⟨hlt, h10⟩ := b6 h
  have hs := segs_succ l n h
  simp only [joinN, lineB, List.getElem?_eq_getElem h, List.getElem?_eq_getElem (show n < (segs l).length by omega), Option.getD_some]
  rw [← h10, ← List.take_succ_eq_append_getElem hlt, ← hs]
  have e : (segs l)[n + 1].1 ≤ (segs l)[n + 1].2 := c1
  have := List.take_append_drop (segs l)[n + 1].1 (l.take (segs l)[n + 1].2)
  rw [List.take_take, Nat.min_eq_left e] at this
  exact this.symm

theorem joinN_all (l : List UInt8) : joinN l (segs l).length = l := by
  have hp := segs_pos l
  obtain ⟨n, hn⟩ : ∃ n, (segs l).length = n + 1 := ⟨(segs l).length - 1, by omega⟩
  have h5 := (segs_facts l n (by omega)).2.2.2.2.1 (by omega)
  rw [hn]
  simp only [joinN, List.getElem?_eq_getElem (show n < (segs l).length by omega), Option.getD_some]
  rw [h5, List.take_length]

theorem joinN_le (l : List UInt8) : ∀ n, (joinN l n).length ≤ l.length
  | 0 => by simp [joinN]
  | n + 1 => by rw [joinN, List.length_take]; omega

theorem lineB_no (l : List UInt8) (n : Nat) (h : n < (segs l).length) (j : Nat) (hj : (segs l)[n].1 + j < (segs l)[n].2) : ∃ c, (lineB l (segs l)[n])[j]? = some c ∧ ¬ c = 10 := by
  obtain ⟨a1, a2, _, a4, _, _⟩ := segs_facts l n h
  rw [lineB_get l _ j hj]
  exact ⟨l[(segs l)[n].1 + j], List.getElem?_eq_getElem (by omega), a4 _ _ (by omega) hj⟩

end Go.Proofs.Ytiachpjejebhjaa
