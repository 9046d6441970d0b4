/- The plain script. -/
import Derived.Test.YtbjlnllbcgghlaaDoorPyR
namespace Go.Proofs.YtbjlnllbcgghlaaDoor
open Go.RowKit Go.Shelf
set_option linter.unusedSimpArgs false
set_option linter.unusedVariables false

def skipK (x : PlD) : Prop := x.kind = 4 ∨ x.kind = 5 ∨ (x.kind = 1 ∧ x.bytes = []) ∨ (x.kind = 3 ∧ x.n = 0)
instance (x : PlD) : Decidable (skipK x) := by unfold skipK; exact inferInstance
def joinK (acc : List PlD) (y x : PlD) : List PlD :=
  if y.n + x.n ≤ 1048576 then acc ++ [⟨y.kind, y.n + x.n, y.bytes ++ x.bytes⟩] else acc ++ [⟨y.kind, 1048576, y.bytes ++ x.bytes⟩, ⟨x.kind, y.n + x.n - 1048576, x.bytes⟩]
def stepP (acc : List PlD) (x : PlD) : List PlD :=
  if skipK x then acc else
  match acc.getLast? with
  | none => acc ++ [x]
  | some y => if x.kind = 2 ∨ y.kind ≠ x.kind then acc ++ [x] else joinK acc.dropLast y x
def plainK (l : List PlD) : List PlD := l.foldl stepP []
theorem step_skip {acc : List PlD} {x : PlD} (h : skipK x) : stepP acc x = acc := by unfold stepP; rw [if_pos h]
theorem step_nil {x : PlD} (h : ¬ skipK x) : stepP [] x = [x] := by unfold stepP; rw [if_neg h]; rfl
theorem step_new {acc : List PlD} {y x : PlD} (h : ¬ skipK x) (hk : x.kind = 2 ∨ y.kind ≠ x.kind) : stepP (acc ++ [y]) x = acc ++ [y] ++ [x] := by
  unfold stepP; rw [if_neg h, List.getLast?_append]; simp only [List.getLast?_singleton, Option.some_or]; rw [if_pos hk]
theorem step_join {acc : List PlD} {y x : PlD} (h : ¬ skipK x) (hk : x.kind ≠ 2) (hk2 : y.kind = x.kind) : stepP (acc ++ [y]) x = joinK acc y x := by
  unfold stepP; rw [if_neg h, List.getLast?_append]; simp only [List.getLast?_singleton, Option.some_or]; rw [if_neg (by simp [hk, hk2]), List.dropLast_concat]
theorem fine_of {k n : Int} {bs : List UInt8} (h1 : 1 ≤ k) (h2 : k ≤ 5) (h3 : k = 1 ∨ bs = []) (h4 : k = 3 → 0 ≤ n ∧ n ≤ 1048576) (h5 : k ≠ 3 → n = 0) : fineK ⟨k, n, bs⟩ = true := by
  unfold fineK
  simp only [Bool.and_eq_true, decide_eq_true_eq, Bool.or_eq_true, List.isEmpty_iff]
  refine ⟨⟨⟨h1, h2⟩, h3⟩, ?_⟩
  split
  · next h => simp; exact h4 h
  · next h => simp; exact h5 h
theorem fine_to {x : PlD} (h : fineK x = true) : 1 ≤ x.kind ∧ x.kind ≤ 5 ∧ (x.kind = 1 ∨ x.bytes = []) ∧ (x.kind = 3 → 0 ≤ x.n ∧ x.n ≤ 1048576) ∧ (x.kind ≠ 3 → x.n = 0) ∧ 0 ≤ x.n ∧ x.n ≤ 1048576 := by
  unfold fineK at h
  simp only [Bool.and_eq_true, decide_eq_true_eq, Bool.or_eq_true, List.isEmpty_iff] at h
  obtain ⟨⟨⟨h1, h2⟩, h3⟩, h4⟩ := h
  split at h4
  · next e => simp at h4; exact ⟨h1, h2, h3, fun _ => h4, fun c => absurd e c, h4.1, h4.2⟩
  · next e => simp at h4; exact ⟨h1, h2, h3, fun c => absurd c e, fun _ => h4, by omega, by omega⟩
/-- The last one, if there is one. -/
theorem last_cases {β : Type} (l : List β) : l = [] ∨ ∃ l0 u, l = l0 ++ [u] := by
  rcases l.eq_nil_or_concat with h | ⟨l0, u, h⟩
  · exact .inl h
  · exact .inr ⟨l0, u, by rw [h, List.concat_eq_append]⟩
theorem step_fine {acc : List PlD} {x : PlD} (ha : ∀ y ∈ acc, fineK y = true) (hx : fineK x = true) : ∀ y ∈ stepP acc x, fineK y = true := by
  by_cases hs : skipK x
  · rw [step_skip hs]; exact ha
  · rcases last_cases acc with rfl | ⟨acc0, y, rfl⟩
    · rw [step_nil hs]; intro z hz; simp at hz; subst hz; exact hx
    · by_cases hk : x.kind = 2 ∨ y.kind ≠ x.kind
      · rw [step_new hs hk]
        intro z hz
        rcases List.mem_append.1 hz with hz | hz
        · exact ha z hz
        · simp at hz; subst hz; exact hx
      · rw [step_join hs (by omega) (by omega)]
        have hy := ha y (by simp)
        obtain ⟨y1, y2, y3, y4, y5, y6, y7⟩ := fine_to hy
        obtain ⟨x1, x2, x3, x4, x5, x6, x7⟩ := fine_to hx
        have hke : y.kind = x.kind := by omega
        intro z hz
        unfold joinK at hz
        split at hz
        · rcases List.mem_append.1 hz with hz | hz
          · exact ha z (by simp [hz])
          · simp at hz; subst hz
            refine fine_of y1 y2 ?_ (fun e => ⟨by omega, by omega⟩) (fun e => by have := y5 e; have := x5 (by omega); omega)
            rcases y3 with y3 | y3
            · exact .inl y3
            · rcases x3 with x3 | x3
              · exact .inl (by omega)
              · exact .inr (by rw [y3, x3]; rfl)
        · next hov =>
          have hk3 : x.kind = 3 := by
            rcases Decidable.em (x.kind = 3) with e | e
            · exact e
            · have := x5 e; have := y5 (by omega); omega
          have hb1 : y.bytes = [] := by rcases y3 with q | q; · omega
                                        · exact q
          have hb2 : x.bytes = [] := by rcases x3 with q | q; · omega
                                        · exact q
          rcases List.mem_append.1 hz with hz | hz
          · exact ha z (by simp [hz])
          · simp at hz
            rcases hz with rfl | rfl
            · exact fine_of y1 y2 (.inr (by rw [hb1, hb2]; rfl)) (fun e => ⟨by omega, by omega⟩) (fun e => by omega)
            · exact fine_of x1 x2 (.inr hb2) (fun e => ⟨by omega, by omega⟩) (fun e => by omega)
def bsum (l : List PlD) : Nat := (l.map fun x => x.bytes.length).sum
theorem bsum_app (a b : List PlD) : bsum (a ++ b) = bsum a + bsum b := by unfold bsum; rw [List.map_append, List.sum_append]
theorem bsum_one (x : PlD) : bsum [x] = x.bytes.length := by simp [bsum]
theorem step_size {acc : List PlD} {x : PlD} (ha : ∀ y ∈ acc, fineK y = true) (hx : fineK x = true) : (stepP acc x).length ≤ acc.length + 1 ∧ bsum (stepP acc x) ≤ bsum acc + x.bytes.length := by
  by_cases hs : skipK x
  · rw [step_skip hs]; omega
  · rcases last_cases acc with rfl | ⟨acc0, y, rfl⟩
    · rw [step_nil hs, bsum_one]; simp
    · by_cases hk : x.kind = 2 ∨ y.kind ≠ x.kind
      · rw [step_new hs hk, bsum_app, bsum_one]; simp
      · rw [step_join hs (by omega) (by omega)]
        obtain ⟨y1, y2, y3, y4, y5, y6, y7⟩ := fine_to (ha y (by simp))
        obtain ⟨x1, x2, x3, x4, x5, x6, x7⟩ := fine_to hx
        unfold joinK
        split
        · simp only [bsum_app, bsum_one, List.length_append, List.length_cons, List.length_nil]; omega
        · next hov =>
          have hb2 : x.bytes = [] := by
            rcases x3 with q | q
            · have := x5 (by omega); have := y5 (by omega); omega
            · exact q
          rw [hb2]
          simp only [bsum_app, List.length_append, List.length_cons, List.length_nil]
          simp [bsum]
end Go.Proofs.YtbjlnllbcgghlaaDoor
