/- A struct of which nothing is asked, as the little machine's argument. No program is walked here. -/
import Derived.Test.YtkcgchpflppmnaaEvQ
import Derived.WideShapes
noncomputable section
namespace Go.Proofs.Ytkcgchpflppmnaa.Ev
open Go.RowKit Go.WideShapes
set_option linter.unusedSimpArgs false
set_option linter.unusedVariables false

theorem oneCell_of_okWide {P : Program} {w : World} {r : Reach} {base : Nat} {t : TypeId} {v : Value} (h : Cell.okWide P w r base t v) : v.oneCell' = true := by
  cases v with
  | agg cs =>
    exfalso
    unfold Cell.okWide Cell.ok at h
    cases e : P.underlying t with
    | none => simp [e] at h
    | some d => cases d <;> simp [e] at h
  | tuple cs =>
    exfalso
    unfold Cell.okWide Cell.ok at h
    cases e : P.underlying t with
    | none => simp [e] at h
    | some d => cases d <;> simp [e] at h
  | _ => rfl
theorem cells_of_struct {P : Program} {w : World} {r : Reach} {base : Nat} {t : TypeId} {v : Value} {fs : Array Field} (hu : P.underlying t = some (.struct fs)) (h : Value.okWide P w r base t v) :
    ∃ cs, v = .agg cs ∧ cs.size = P.cellsOf t ∧ ∀ c ∈ cs.toList, c.oneCell' = true := by
  simp only [Value.okWide, hu] at h
  obtain ⟨cs, h1, h2, ts, _, _, h3⟩ := h
  refine ⟨cs, h1, h2, fun c hc => ?_⟩
  obtain ⟨i, hi, rfl⟩ := List.getElem_of_mem hc
  obtain ⟨u, _, hk⟩ := h3 i cs.toList[i] (by simp at hi; simp [hi])
  exact oneCell_of_okWide hk
def opqs : Nat → Nat → List AV
  | _, 0 => []
  | k, n + 1 => .opq k :: opqs (k + 1) n
theorem opqs_ok {ν : Nat → Value} {E : Env} : ∀ (l : List Value) (k : Nat), (∀ j, j < l.length → l[j]? = some (ν (k + j))) → (∀ c ∈ l, c.oneCell' = true) → VL ν E (opqs k l.length) l
  | [], k, _, _ => by simp only [List.length_nil, opqs, VL]
  | x :: xs, k, h, h1 => by
    simp only [List.length_cons, opqs, VL, V]
    refine ⟨x, xs, rfl, ⟨?_, h1 x (by simp)⟩, opqs_ok xs (k + 1) (fun j hj => ?_) fun c hc => h1 c (by simp [hc])⟩
    · have := h 0 (by simp)
      simpa using this
    · have := h (j + 1) (by simp; omega)
      rw [show k + 1 + j = k + (j + 1) from by omega]
      simpa using this
/-- A struct's cells. -/
theorem opq_struct {E : Env} (cs : Array Value) (h1 : ∀ c ∈ cs.toList, c.oneCell' = true) : VL (fun i => cs.getD i undef) E [.agg (opqs 0 cs.size)] [.agg cs] := by
  simp only [VL, V]
  refine ⟨_, _, rfl, ⟨cs, rfl, ?_⟩, rfl⟩
  have := opqs_ok (ν := fun i => cs.getD i undef) (E := E) cs.toList 0 (fun j hj => by simp at hj; simp [hj]) h1
  simpa using this

end Go.Proofs.Ytkcgchpflppmnaa.Ev
