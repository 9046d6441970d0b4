/- Plain mathematics: the place of a line and a column; a line's indent. -/
import Derived.Test.YtiachpjejebhjaaPlain2
namespace Go.Proofs.Ytiachpjejebhjaa

theorem seg_of_place (l : List UInt8) (k : Nat) (hk : k ≤ l.length) : ∃ (m : Nat) (h : m < (segs l).length), (segs l)[m].1 ≤ k ∧ k ≤ (segs l)[m].2 := by
  have key : ∀ d m, m + d = (segs l).length → (∀ h : m < (segs l).length, (segs l)[m].1 ≤ k) → m < (segs l).length → ∃ (m : Nat) (h : m < (segs l).length), (segs l)[m].1 ≤ k ∧ k ≤ (segs l)[m].2 := by
    intro d
    induction d with
    | zero => intro m hm _ h; omega
    | succ d ih =>
      intro m hm hf h
      by_cases hle : k ≤ (segs l)[m].2
      · exact ⟨m, h, hf h, hle⟩
      · have hfc := segs_facts l m h
        by_cases hl : m + 1 = (segs l).length
        · have := hfc.2.2.2.2.1 hl; omega
        · exact ih (m + 1) (by omega) (fun h' => by rw [segs_succ l m h']; omega) (by omega)
  exact key (segs l).length 0 (by omega) (fun h => by rw [segs_zero l h]; exact Nat.zero_le _) (segs_pos l)

theorem posR_seg (l : List UInt8) (m : Nat) (h : m < (segs l).length) (k : Nat) (h1 : (segs l)[m].1 ≤ k) (h2 : k ≤ (segs l)[m].2) : posR l k = (m + 1, colFrom l (segs l)[m].1 k) := by
  obtain ⟨_, a2, a3, a4, _, _⟩ := segs_facts l m h
  exact posR_line l _ _ a3 k h1 (by omega) (fun j hj h3 h4 => a4 j hj h3 (by omega))

/-- The place of a line and a column, and an error's number. -/
def atF (l : List UInt8) (line col : Int) : Int × Int :=
  match (List.range (l.length + 1)).find? (fun k => decide (((posR l k).1 : Int) = line ∧ (posR l k).2 = col)) with
  | some k => ((k : Int), 0)
  | none => (0, 2)

theorem atF_some (l : List UInt8) (line col : Int) (k : Nat) (hk : k ≤ l.length) (h1 : ((posR l k).1 : Int) = line) (h2 : (posR l k).2 = col) : atF l line col = ((k : Int), 0) := by
  unfold atF
  cases hf : (List.range (l.length + 1)).find? (fun k => decide (((posR l k).1 : Int) = line ∧ (posR l k).2 = col)) with
  | none =>
    have := List.find?_eq_none.1 hf k (List.mem_range.2 (by omega))
    simp [h1, h2] at this
  | some j =>
    have hj := List.find?_some hf
    have hj2 := List.mem_range.1 (List.mem_of_find?_eq_some hf)
    simp only [decide_eq_true_eq] at hj
    have : j = k := posR_inj l j k (by omega) hk (Prod.ext (by omega) (by rw [hj.2, h2]))
    rw [this]

theorem atF_none (l : List UInt8) (line col : Int) (h : ∀ k, k ≤ l.length → ¬ (((posR l k).1 : Int) = line ∧ (posR l k).2 = col)) : atF l line col = (0, 2) := by
  unfold atF
  rw [List.find?_eq_none.2 (fun k hk => by simpa using h k (by have := List.mem_range.1 hk; omega))]

theorem atF_found (l : List UInt8) (line col : Int) (m : Nat) (h : m < (segs l).length) (hl : line = (m : Int) + 1) (k : Nat) (h1 : (segs l)[m].1 ≤ k) (h2 : k ≤ (segs l)[m].2) (hc : colFrom l (segs l)[m].1 k = col) : atF l line col = ((k : Int), 0) := by
  have hp := posR_seg l m h k h1 h2
  exact atF_some l line col k (by have := (segs_facts l m h).2.1; omega) (by rw [hp, hl]; simp) (by rw [hp]; exact hc)

theorem atF_miss (l : List UInt8) (line col : Int) (m : Nat) (h : m < (segs l).length) (hl : line = (m : Int) + 1) (hc : ∀ k, (segs l)[m].1 ≤ k → k ≤ (segs l)[m].2 → colFrom l (segs l)[m].1 k ≠ col) : atF l line col = (0, 2) := by
  refine atF_none l line col fun k hk ⟨e1, e2⟩ => ?_
  obtain ⟨m', h', b1, b2⟩ := seg_of_place l k hk
  have hp := posR_seg l m' h' k b1 b2
  rw [hp] at e1 e2
  simp only at e1 e2
  obtain rfl : m' = m := by omega
  exact hc k b1 b2 e2

theorem atF_out (l : List UInt8) (line col : Int) (h : line < 1 ∨ ((segs l).length : Int) < line) : atF l line col = (0, 2) := by
  refine atF_none l line col fun k hk ⟨e1, _⟩ => ?_
  obtain ⟨m', h', b1, b2⟩ := seg_of_place l k hk
  rw [posR_seg l m' h' k b1 b2] at e1
  simp only at e1
  omega

/-- The column of the first byte that is no blank, from column c on; 0 where there is none. -/
def indGo : Int → List UInt8 → Int
  | _, [] => 0
  | c, x :: xs => if x ≠ 32 ∧ x ≠ 9 then c else indGo (nextC c x.toNat) xs

theorem indGo_hit (c : Int) (b : List UInt8) (j : Nat) (h : j < b.length) (h1 : b[j] ≠ 32) (h2 : b[j] ≠ 9) : indGo c (b.drop j) = c := by
  rw [List.drop_eq_getElem_cons h, indGo, if_pos ⟨h1, h2⟩]
theorem indGo_miss (c : Int) (b : List UInt8) (j : Nat) (h : j < b.length) (h1 : b[j] = 32 ∨ b[j] = 9) : indGo c (b.drop j) = indGo (nextC c b[j].toNat) (b.drop (j + 1)) := by
  rw [List.drop_eq_getElem_cons h, indGo, if_neg (by rintro ⟨a1, a2⟩; rcases h1 with h1 | h1 <;> contradiction)]
theorem indGo_end (c : Int) (b : List UInt8) (j : Nat) (h : b.length ≤ j) : indGo c (b.drop j) = 0 := by
  rw [List.drop_eq_nil_of_le h, indGo]

/-- A line's indent, and an error's number. -/
def indentF (l : List UInt8) (line : Int) : Int × Int :=
  if 1 ≤ line ∧ line ≤ (segs l).length then (indGo 1 (lineB l ((segs l)[(line - 1).toNat]?.getD (0, 0))), 0) else (0, 2)

theorem indentF_in (l : List UInt8) (line : Int) (m : Nat) (h : m < (segs l).length) (hl : line = (m : Int) + 1) : indentF l line = (indGo 1 (lineB l (segs l)[m]), 0) := by
  unfold indentF
  rw [if_pos (by omega), show (line - 1).toNat = m from by omega, List.getElem?_eq_getElem h]; rfl
theorem indentF_out (l : List UInt8) (line : Int) (h : line < 1 ∨ ((segs l).length : Int) < line) : indentF l line = (0, 2) := by
  unfold indentF; rw [if_neg (by omega)]

end Go.Proofs.Ytiachpjejebhjaa
