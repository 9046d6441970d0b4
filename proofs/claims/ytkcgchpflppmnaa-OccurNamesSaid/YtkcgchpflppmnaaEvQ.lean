/- The little machine whole: code, calls; what it answers, the model answers in every world. No program is walked here. -/
import Derived.Test.YtkcgchpflppmnaaEvP
import Derived.LoopN
noncomputable section
namespace Go.Proofs.Ytkcgchpflppmnaa.Ev
open Go.RowKit
set_option linter.unusedSimpArgs false
set_option linter.unusedVariables false

section
variable {P : Program}
variable {ν : Nat → Value} {B : Nat} {w0 w : World} {E : Env} {M : Mem}
variable {a : Act}

inductive AX where
  | normal
  | exit (id : Nat)
  | ret
def AX.to : AX → Exit
  | .normal => .normal
  | .exit id => .exit id
  | .ret => .ret
def withX (x : AX) : List St → List (AX × St)
  | [] => []
  | s :: ss => (x, s) :: withX x ss
def inBlk (id : Nat) : List (AX × St) → List (AX × St)
  | [] => []
  | (.exit j, s) :: ss => (match Nat.beq j id with | true => (.normal, s) | false => (.exit j, s)) :: inBlk id ss
  | (x, s) :: ss => (x, s) :: inBlk id ss
/-- Rounds of a loop. -/
def rounds (f : St → Option (List (AX × St))) : Nat → St → Option (List (AX × St))
  | 0, _ => none
  | n + 1, st => match f st with
    | none => none
    | some l => match l with
      | [(.normal, s)] => rounds f n s
      | [(x, s)] => some [(x, s)]
      | l => runAll (fun (r : AX × St) => match r.1 with
        | .normal => rounds f n r.2
        | x => some [(x, r.2)]) l
variable (P) in
def ceval (cf : CF) (LF : Nat) : Code → St → Option (List (AX × St))
  | .skip, st => some [(.normal, st)]
  | .region _ ops draw, st => match region P cf ops draw st with
    | some l => match l with
      | [s] => some [(.normal, s)]
      | l => some (withX .normal l)
    | none => none
  | .seq x y, st => match ceval cf LF x st with
    | none => none
    | some l => match l with
      | [(.normal, s)] => ceval cf LF y s
      | [(x, s)] => some [(x, s)]
      | l => runAll (fun (r : AX × St) => match r.1 with
        | .normal => ceval cf LF y r.2
        | x => some [(x, r.2)]) l
  | .cond c x y, st => match opnd st.t c with
    | some (.bool true) => ceval cf LF x st
    | some (.bool false) => ceval cf LF y st
    | _ => none
  | .block id c, st => match ceval cf LF c st with
    | some l => some (inBlk id l)
    | none => none
  | .loop c, st => rounds (ceval cf LF c) LF st
  | .exit id, st => some [(.exit id, st)]
  | .ret, st => some [(.ret, st)]
  | _, _ => none

def Post (ν : Nat → Value) (B : Nat) (w0 : World) (E : Env) (n : Nat) (outs : List (AX × St)) (Q : Exit → Act → World → Prop) : Prop :=
  ∀ r ∈ outs, ∀ E' a' w', Late n E r.2.m.n E' → SR ν B w0 E' r.2 a' w' → Q r.1.to a' w'
theorem Post.later {n n' : Nat} {E' : Env} {outs outs' : List (AX × St)} {Q : Exit → Act → World → Prop} (h : Post ν B w0 E n outs Q) (hl : Late n E n' E') (hs : ∀ r ∈ outs', r ∈ outs) : Post ν B w0 E' n' outs' Q :=
  fun r hr E2 a2 w2 hl2 hSR => h r (hs r hr) E2 a2 w2 (hl.trans hl2) hSR
theorem rounds_ok {f : St → Option (List (AX × St))} {c : Code} {Q : Exit → Act → World → Prop}
    (hf : ∀ st outs E a w (R : Exit → Act → World → Prop), f st = some outs → SR ν B w0 E st a w → Post ν B w0 E st.m.n outs R → c.wp P R a w) :
    ∀ (n : Nat) (st : St) (outs : List (AX × St)) (E : Env) (a : Act) (w : World), rounds f n st = some outs → SR ν B w0 E st a w → Post ν B w0 E st.m.n outs Q → Code.rounds P c Q n a w
  | 0, st, outs, E, a, w, h, _, _ => by simp only [rounds] at h; cases h
  | n + 1, st, outs, E, a, w, h, hSR, hP => by
    simp only [rounds] at h
    split at h
    · cases h
    rename_i l hl
    rw [rounds_succ]
    refine hf st l E a w _ hl hSR ?_
    intro r hr E' a' w' hlate hSR'
    have key : ∀ (o : List (AX × St)), (match r.1 with | .normal => rounds f n r.2 | x => some [(x, r.2)]) = some o → (∀ x ∈ o, x ∈ outs) → Exit.then (Code.rounds P c Q n) Q r.1.to a' w' := by
      intro o ho hsub
      obtain ⟨x, s⟩ := r
      cases x with
      | normal =>
        simp only at ho
        exact rounds_ok hf n s o E' a' w' ho hSR' (hP.later hlate hsub)
      | exit id =>
        simp only [Option.some.injEq] at ho; subst ho
        exact hP _ (hsub _ (by simp)) E' a' w' hlate hSR'
      | ret =>
        simp only [Option.some.injEq] at ho; subst ho
        exact hP _ (hsub _ (by simp)) E' a' w' hlate hSR'
    split at h
    · rename_i s
      have : r = (.normal, s) := by simpa using hr
      subst this
      exact key outs h (fun _ hx => hx)
    · rename_i x s hx
      have : r = (x, s) := by simpa using hr
      subst this
      refine key outs ?_ (fun _ hx => hx)
      cases x with
      | normal => exact absurd rfl hx
      | exit id => exact h
      | ret => exact h
    · obtain ⟨o, h1, h2⟩ := runAll_mem h r hr
      exact key o h1 h2
theorem inBlk_mem {id : Nat} : ∀ {l : List (AX × St)} {r : AX × St}, r ∈ l → (match r.1 with | .exit j => (match Nat.beq j id with | true => (.normal, r.2) | false => (.exit j, r.2)) | x => (x, r.2)) ∈ inBlk id l
  | [], r, h => by cases h
  | q :: qs, r, h => by
    obtain ⟨x, s⟩ := q
    rcases List.mem_cons.1 h with rfl | h
    · cases x <;> simp [inBlk]
    · have := inBlk_mem (id := id) h
      cases x <;> simp only [inBlk, List.mem_cons] <;> exact .inr this
theorem withX_mem {x : AX} : ∀ {l : List St} {r : AX × St}, r ∈ withX x l → ∃ s ∈ l, r = (x, s)
  | [], r, h => by cases h
  | q :: qs, r, h => by
    simp only [withX, List.mem_cons] at h
    rcases h with rfl | h
    · exact ⟨q, by simp, rfl⟩
    · obtain ⟨s, h1, h2⟩ := withX_mem h; exact ⟨s, by simp [h1], h2⟩
theorem withX_in {x : AX} : ∀ {l : List St} {s : St}, s ∈ l → (x, s) ∈ withX x l
  | [], s, h => by cases h
  | q :: qs, s, h => by
    rcases List.mem_cons.1 h with rfl | h
    · simp [withX]
    · simp only [withX, List.mem_cons]; exact .inr (withX_in h)
theorem ceval_ok {cf : CF} (hcf : CFok P cf ν B w0) (hmix : P.follows .mixedOrders = true) {LF : Nat} : ∀ (c : Code) (st : St) (outs : List (AX × St)) (E : Env) (a : Act) (w : World) (Q : Exit → Act → World → Prop),
    ceval P cf LF c st = some outs → SR ν B w0 E st a w → Post ν B w0 E st.m.n outs Q → c.wp P Q a w
  | .skip, st, outs, E, a, w, Q, h, hSR, hP => by
    simp only [ceval, Option.some.injEq] at h; subst h
    exact wp_skip (hP _ (List.mem_singleton.2 rfl) E a w (Late.refl _ _) hSR)
  | .region id ops draw, st, outs, E, a, w, Q, h, hSR, hP => by
    simp only [ceval] at h
    split at h
    case h_2 => cases h
    rename_i l hl
    refine region_ok hcf hmix hl hSR fun st' hst' E' a' w' hlate hSR' => ?_
    have : (AX.normal, st') ∈ outs := by
      split at h
      · rename_i s
        simp only [Option.some.injEq] at h; subst h
        have : st' = s := by simpa using hst'
        rw [this]; simp
      · simp only [Option.some.injEq] at h; subst h
        exact withX_in hst'
    exact hP _ this E' a' w' hlate hSR'
  | .seq x y, st, outs, E, a, w, Q, h, hSR, hP => by
    simp only [ceval] at h
    split at h
    · cases h
    rename_i l hl
    refine wp_seq (ceval_ok hcf hmix x st l E a w _ hl hSR ?_)
    intro r hr E' a' w' hlate hSR'
    have key : ∀ (o : List (AX × St)), (match r.1 with | .normal => ceval P cf LF y r.2 | x => some [(x, r.2)]) = some o → (∀ x ∈ o, x ∈ outs) → Exit.then (y.wp P Q) Q r.1.to a' w' := by
      intro o ho hsub
      obtain ⟨x, s⟩ := r
      cases x with
      | normal =>
        simp only at ho
        exact ceval_ok hcf hmix y s o E' a' w' Q ho hSR' (hP.later hlate hsub)
      | exit id =>
        simp only [Option.some.injEq] at ho; subst ho
        exact hP _ (hsub _ (by simp)) E' a' w' hlate hSR'
      | ret =>
        simp only [Option.some.injEq] at ho; subst ho
        exact hP _ (hsub _ (by simp)) E' a' w' hlate hSR'
    split at h
    · rename_i s
      have : r = (.normal, s) := by simpa using hr
      subst this
      exact key outs h (fun _ hx => hx)
    · rename_i x s hx
      have : r = (x, s) := by simpa using hr
      subst this
      refine key outs ?_ (fun _ hx => hx)
      cases x with
      | normal => exact absurd rfl hx
      | exit id => exact h
      | ret => exact h
    · obtain ⟨o, h1, h2⟩ := runAll_mem h r hr
      exact key o h1 h2
  | .cond c x y, st, outs, E, a, w, Q, h, hSR, hP => by
    simp only [ceval] at h
    split at h
    · rename_i hc
      exact wp_cond_true (opnd_ok hSR.tm hc).bool_inv (ceval_ok hcf hmix x st outs E a w Q h hSR hP)
    · rename_i hc
      exact wp_cond_false (opnd_ok hSR.tm hc).bool_inv (ceval_ok hcf hmix y st outs E a w Q h hSR hP)
    · cases h
  | .block id c, st, outs, E, a, w, Q, h, hSR, hP => by
    simp only [ceval] at h
    split at h
    case h_2 => cases h
    rename_i l hl
    simp only [Option.some.injEq] at h; subst h
    refine wp_block (ceval_ok hcf hmix c st l E a w _ hl hSR ?_)
    intro r hr E' a' w' hlate hSR'
    have hm := inBlk_mem (id := id) hr
    obtain ⟨x, s⟩ := r
    cases x with
    | normal => exact hP _ hm E' a' w' hlate hSR'
    | ret => exact hP _ hm E' a' w' hlate hSR'
    | exit j =>
      simp only at hm
      simp only [AX.to, Exit.inBlock]
      by_cases e : j = id
      · subst e
        have hb : Nat.beq j j = true := by simp
        rw [hb] at hm
        rw [if_pos rfl]
        exact hP _ hm E' a' w' hlate hSR'
      · have hb : Nat.beq j id = false := by
          cases h' : Nat.beq j id with
          | true => exact absurd (Nat.eq_of_beq_eq_true h') e
          | false => rfl
        rw [hb] at hm
        rw [if_neg e]
        exact hP _ hm E' a' w' hlate hSR'
  | .loop c, st, outs, E, a, w, Q, h, hSR, hP => by
    simp only [ceval] at h
    exact wp_loop_rounds LF (rounds_ok (fun st outs E a w R h1 h2 h3 => ceval_ok hcf hmix c st outs E a w R h1 h2 h3) LF st outs E a w h hSR hP)
  | .exit id, st, outs, E, a, w, Q, h, hSR, hP => by
    simp only [ceval, Option.some.injEq] at h; subst h
    exact wp_exit (hP _ (List.mem_singleton.2 rfl) E a w (Late.refl _ _) hSR)
  | .ret, st, outs, E, a, w, Q, h, hSR, hP => by
    simp only [ceval, Option.some.injEq] at h; subst h
    exact wp_ret (hP _ (List.mem_singleton.2 rfl) E a w (Late.refl _ _) hSR)
  | .rangeFunc _ _ _ _, st, outs, E, a, w, Q, h, hSR, hP => by simp only [ceval] at h; cases h
  | .scope _, st, outs, E, a, w, Q, h, hSR, hP => by simp only [ceval] at h; cases h
  | .label _, st, outs, E, a, w, Q, h, hSR, hP => by simp only [ceval] at h; cases h
  | .goto _, st, outs, E, a, w, Q, h, hSR, hP => by simp only [ceval] at h; cases h
  | .refuse _, st, outs, E, a, w, Q, h, hSR, hP => by simp only [ceval] at h; cases h

/-! ### calls -/
variable (P) in
def aresult (st : St) : List ResultVar → Option (List AV)
  | [] => some []
  | .tmp i :: rs => match st.t.get i with
    | some v => match aresult st rs with
      | some vs => some (v :: vs)
      | none => none
    | none => none
  | .cell i ty :: rs => match st.t.get i with
    | some v => match aload P ty v st.m with
      | some (u, _) => match aresult st rs with
        | some vs => some (u :: vs)
        | none => none
      | none => none
    | none => none
def wrapRes : List AV → AV
  | [v] => v
  | vs => .tup vs
theorem aload_m {ty : TypeId} {v : AV} {r : AV × Mem} (h : aload P ty v M = some r) : r.2 = M := by
  unfold aload at h
  split at h
  case h_2 => cases h
  split at h
  case h_2 => cases h
  split at h
  · split at h
    case h_2 => cases h
    split at h
    case h_2 => cases h
    simp only [Option.some.injEq] at h; subst h; rfl
  · split at h
    case h_2 => cases h
    simp only [Option.some.injEq] at h; subst h; rfl
  · cases h
theorem aload_same (h : MR ν B w0 E M w) {ty : TypeId} {v : AV} {x : Value} (hv : V ν E v x) {r : AV × Mem} (hr : aload P ty v M = some r) : ∃ y, (Instr.loadAt ty x).run P w = .ok y w ∧ V ν E r.1 y := by
  unfold aload at hr
  split at hr
  case h_2 => cases hr
  rename_i b o
  split at hr
  case h_2 => cases hr
  rename_i K hK
  obtain ⟨p, hp, rfl⟩ := hv.ptr_inv
  split at hr
  · rename_i ha
    split at hr
    case h_2 => cases hr
    rename_i n hn
    split at hr
    case h_2 => cases hr
    rename_i l hl
    simp only [Option.some.injEq] at hr; subst hr
    obtain ⟨xs, hx, hrun2⟩ := h.loadCells P hK hp hl
    refine ⟨.agg xs.toArray, ?_, by simp only [V]; exact ⟨_, rfl, hx⟩⟩
    simp [Instr.loadAt, Instr.sureAddr, loadVar, run_isAgg' ha, run_sizeOf' hn, hrun2]
  · rename_i ha
    split at hr
    case h_2 => cases hr
    rename_i u hu
    simp only [Option.some.injEq] at hr; subst hr
    obtain ⟨x, hx, hV, _⟩ := h.cell hK hp hu
    refine ⟨x, ?_, hV⟩
    simp only [Instr.loadAt, Instr.sureAddr, Sem.run_bind, Sem.run_pure, Result.andThen_ok, loadVar, run_isAgg' ha, Bool.false_eq_true, if_false]
    exact run_load_cell hx
  · cases hr
theorem aresult_ok {st : St} (h : SR ν B w0 E st a w) : ∀ {rs : List ResultVar} {vs : List AV}, aresult P st rs = some vs → ∃ xs, VL ν E vs xs ∧ (rs.mapM (m := Sem) fun | .tmp t => pure (a.tmps.getD t undef) | .cell c t => do loadVar t (← asAddr (a.tmps.getD c undef))).run P w = .ok xs w
  | [], vs, hv => by simp only [aresult, Option.some.injEq] at hv; subst hv; exact ⟨[], by simp only [VL], rfl⟩
  | .tmp i :: rs, vs, hv => by
    simp only [aresult] at hv
    split at hv
    case h_2 => cases hv
    rename_i v h1
    split at hv
    case h_2 => cases hv
    rename_i us h2
    simp only [Option.some.injEq] at hv; subst hv
    obtain ⟨x, hx, hV⟩ := h.tm i v h1
    obtain ⟨xs, hL, hrun⟩ := aresult_ok h h2
    refine ⟨x :: xs, VL.cons_mk hV hL, ?_⟩
    simp only [List.mapM_cons, Sem.run_bind, Sem.run_pure, Result.andThen_ok, Array.getD_eq_getD_getElem?, hx, Option.getD_some]
    simp only [Array.getD_eq_getD_getElem?] at hrun
    rw [hrun]; rfl
  | .cell i ty :: rs, vs, hv => by
    simp only [aresult] at hv
    split at hv
    case h_2 => cases hv
    rename_i v h1
    split at hv
    case h_2 => cases hv
    rename_i u M' hl
    split at hv
    case h_2 => cases hv
    rename_i us h2
    simp only [Option.some.injEq] at hv; subst hv
    obtain ⟨x, hx, hV⟩ := h.tm i v h1
    obtain ⟨xs, hL, hrun⟩ := aresult_ok h h2
    obtain ⟨y, hy, hyV⟩ := aload_same h.mr hV hl
    refine ⟨y :: xs, VL.cons_mk hyV hL, ?_⟩
    have hptr : ∃ ad, x = .pointer (some ad) := by
      unfold aload at hl
      split at hl
      case h_2 => cases hl
      obtain ⟨p, _, rfl⟩ := hV.ptr_inv
      exact ⟨_, rfl⟩
    obtain ⟨ad, rfl⟩ := hptr
    simp only [Instr.loadAt, Instr.sureAddr, Sem.run_bind, Sem.run_pure, Result.andThen_ok] at hy
    simp only [List.mapM_cons, Sem.run_bind, Sem.run_pure, Result.andThen_ok, Array.getD_eq_getD_getElem?, hx, Option.getD_some, asAddr, hy]
    simp only [Array.getD_eq_getD_getElem?, asAddr] at hrun
    rw [hrun]; rfl
theorem results_ok {st : St} (h : SR ν B w0 E st a w) {fn : Func} {vs : List AV} (hv : aresult P st fn.results.toList = some vs) : ∃ x, (results fn a.tmps).run P w = .ok x w ∧ V ν E (wrapRes vs) x := by
  obtain ⟨xs, hL, hrun⟩ := aresult_ok h hv
  have hm : (fn.results.mapM (m := Sem) fun | .tmp t => pure (a.tmps.getD t undef) | .cell c t => do loadVar t (← asAddr (a.tmps.getD c undef))).run P w = .ok xs.toArray w := by
    rw [Array.mapM_eq_mapM_toList]
    simp only [Sem.run_map, hrun, Result.andThen_ok]
  have hlen := hL.length
  by_cases h1 : xs.length = 1
  · obtain ⟨x, rfl⟩ := List.length_eq_one_iff.1 h1
    obtain ⟨v, rfl⟩ := List.length_eq_one_iff.1 (by rw [← hlen]; exact h1)
    simp only [VL] at hL
    obtain ⟨y, ys, he, hV, _⟩ := hL
    simp only [List.cons.injEq] at he
    obtain ⟨rfl, _⟩ := he
    refine ⟨x, ?_, hV⟩
    unfold results
    simp only [Sem.run_bind]
    erw [hm]
    simp
  · refine ⟨.tuple xs.toArray, ?_, ?_⟩
    · unfold results
      simp only [Sem.run_bind]
      erw [hm]
      simp [h1]
    · have : wrapRes vs = .tup vs := by
        cases vs with
        | nil => rfl
        | cons v vs => cases vs with
          | nil => simp at hlen; omega
          | cons => rfl
      rw [this]
      simp only [V]
      exact ⟨_, rfl, hL⟩

def argTmps : List AV → Nat → T AV → T AV
  | [], _, t => t
  | v :: vs, i, t => argTmps vs (i + 1) (t.set (i + 1) i v)
def answers (f : St → Option AV) : List (AX × St) → Option (List (AV × Mem))
  | [] => some []
  | (.exit _, _) :: _ => none
  | (_, s) :: ss => match f s with
    | some v => match answers f ss with
      | some l => some ((v, s.m) :: l)
      | none => none
    | none => none
/-! ### what nobody can reach is forgotten, and what is alike is one -/
/-- The numbers of blocks that a value names. -/
def refs : Nat → AV → List Nat → List Nat
  | 0, _, acc => acc
  | d + 1, v, acc => match v with
    | .ptr b _ => b :: acc
    | .slice b _ _ _ => b :: acc
    | .slic b _ _ _ => b :: acc
    | .map b => b :: acc
    | .fn _ l m => l.foldl (fun acc v => refs d v acc) (m.foldl (fun acc v => refs d v acc) acc)
    | .iface _ v => refs d v acc
    | .agg l => l.foldl (fun acc v => refs d v acc) acc
    | .tup l => l.foldl (fun acc v => refs d v acc) acc
    | _ => acc
def T.values {α : Type} : T α → List α → List α
  | .nil, acc => acc
  | .node v l r, acc => T.values l (T.values r (match v with | some a => a :: acc | none => acc))
def refsObj : AObj → List Nat → List Nat
  | .cells B, acc => (T.values B.u B.base).foldl (fun acc v => refs 4 v acc) acc
  | .map es _, acc => es.foldl (fun acc e => refs 4 e.1 (refs 4 e.2.1 acc)) acc
  | .miter (some m) _ _ _, acc => m :: acc
  | _, acc => acc
/-- The old blocks' names, from number n0 on. -/
def oldRefs (M : Mem) : Nat → List Nat → List Nat
  | 0, acc => acc
  | b + 1, acc => oldRefs M b (match M.get b with | some o => refsObj o acc | none => acc)
/-- Copies what can be reached, from number n0 on. -/
def reach (M : Mem) (n0 : Nat) : Nat → List Nat → T (Option AObj) → T (Option AObj)
  | 0, _, acc => acc
  | _ + 1, [], acc => acc
  | f + 1, b :: bs, acc => match Nat.blt b n0 with
    | true => reach M n0 f bs acc
    | false => match acc.get b with
      | some _ => reach M n0 f bs acc
      | none => match M.get b with
        | some o => reach M n0 f (refsObj o bs) (T.set (b + 1) acc b (some o))
        | none => reach M n0 f bs acc
/-- The old blocks alone. -/
def keepOld (M : Mem) : Nat → T (Option AObj) → T (Option AObj)
  | 0, acc => acc
  | b + 1, acc => keepOld M b (match M.get b with | some o => T.set (b + 1) acc b (some o) | none => acc)
def gc (n0 n : Nat) (v : AV) (M : Mem) : Mem := ⟨reach M n0 100000 (refs 6 v (oldRefs M n0 [])) (keepOld M n0 .nil), n, n⟩
def maxN : List (AV × Mem) → Nat → Nat
  | [], n => n
  | (_, M) :: l, n => maxN l (match Nat.blt n M.n with | true => M.n | false => n)
def gcAll (n0 n : Nat) : List (AV × Mem) → List (AV × Mem)
  | [] => []
  | (v, M) :: l => (v, gc n0 n v M) :: gcAll n0 n l
def hasAns (v : AV) (M : Mem) : List (AV × Mem) → Bool
  | [] => false
  | (u, M') :: l => match AV.beq v u with
    | true => match Mem.beq M M' with
      | true => true
      | false => hasAns v M l
    | false => hasAns v M l
def once : List (AV × Mem) → List (AV × Mem)
  | [] => []
  | (v, M) :: l => match hasAns v M l with
    | true => once l
    | false => (v, M) :: once l
def tidy (n0 : Nat) (l : List (AV × Mem)) : List (AV × Mem) := match l with
  | [] => []
  | [r] => [r]
  | l => once (gcAll n0 (maxN l 0) l)
/-- Memory that knows no more than another. -/
def Sub (h : T (Option AObj)) (M : Mem) : Prop := ∀ b o, h.get b = some (some o) → M.get b = some o
theorem Sub.set {h : T (Option AObj)} {M : Mem} (hs : Sub h M) {b : Nat} {o : AObj} (hb : M.get b = some o) : Sub (T.set (b + 1) h b (some o)) M := by
  intro c oc hc
  rw [T.get_set _ _ _ _ _ (Nat.lt_succ_self b)] at hc
  split at hc
  · rename_i e; subst e; simp only [Option.some.injEq] at hc; subst hc; exact hb
  · exact hs c oc hc
theorem reach_sub {M : Mem} {n0 : Nat} : ∀ (f : Nat) (l : List Nat) (acc : T (Option AObj)), Sub acc M → Sub (reach M n0 f l acc) M
  | 0, l, acc, h => h
  | f + 1, [], acc, h => h
  | f + 1, b :: bs, acc, h => by
    simp only [reach]
    split
    · exact reach_sub f bs acc h
    · split
      · exact reach_sub f bs acc h
      · split
        · rename_i o ho
          exact reach_sub f _ _ (h.set ho)
        · exact reach_sub f bs acc h
theorem keepOld_sub {M : Mem} : ∀ (b : Nat) (acc : T (Option AObj)), Sub acc M → Sub (keepOld M b acc) M
  | 0, acc, h => h
  | b + 1, acc, h => by
    simp only [keepOld]
    refine keepOld_sub b _ ?_
    split
    · rename_i o ho; exact h.set ho
    · exact h
theorem MR.gc (h : MR ν B w0 E M w) {n0 n : Nat} (hn : M.n ≤ n) (v : AV) : MR ν B w0 E (gc n0 n v M) w := by
  refine h.congr (fun b o hb => ?_) hn ?_
  · have hs : Sub (reach M n0 100000 (refs 6 v (oldRefs M n0 [])) (keepOld M n0 .nil)) M := reach_sub _ _ _ (keepOld_sub _ _ (fun b o hb => by rw [T.get_nil] at hb; cases hb))
    refine hs b o ?_
    unfold Ev.gc Mem.get at hb
    simp only at hb
    split at hb
    · rename_i q hq; simp only [Option.some.injEq] at hb; subst hb; exact hq
    · cases hb
  · show E n = none
    cases e : E n with
    | none => rfl
    | some p => have := h.dom _ p e; omega
theorem maxN_le : ∀ {l : List (AV × Mem)} {n : Nat}, n ≤ maxN l n ∧ ∀ r ∈ l, r.2.n ≤ maxN l n
  | [], n => ⟨Nat.le_refl _, fun r hr => by cases hr⟩
  | (v, M) :: l, n => by
    simp only [maxN]
    have key : ∀ k, n ≤ k → M.n ≤ k → n ≤ maxN l k ∧ ∀ r ∈ (v, M) :: l, r.2.n ≤ maxN l k := by
      intro k h1 h2
      obtain ⟨g1, g2⟩ := maxN_le (l := l) (n := k)
      refine ⟨by omega, fun r hr => ?_⟩
      rcases List.mem_cons.1 hr with rfl | hr
      · simp only; omega
      · exact g2 r hr
    split
    · rename_i h; have h := blt_iff.1 h; exact key _ (by omega) (Nat.le_refl _)
    · rename_i h
      have h : ¬ n < M.n := fun hh => by rw [blt_iff.2 hh] at h; cases h
      exact key _ (Nat.le_refl _) (by omega)
theorem gcAll_mem {n0 n : Nat} : ∀ {l : List (AV × Mem)} {r : AV × Mem}, r ∈ l → (r.1, gc n0 n r.1 r.2) ∈ gcAll n0 n l
  | [], r, h => by cases h
  | (v, M) :: l, r, h => by
    simp only [gcAll, List.mem_cons]
    rcases List.mem_cons.1 h with rfl | h
    · exact .inl rfl
    · exact .inr (gcAll_mem h)
theorem hasAns_ok {v : AV} {M : Mem} : ∀ {l : List (AV × Mem)}, hasAns v M l = true → (v, M) ∈ l
  | [], h => by cases h
  | (u, M') :: l, h => by
    simp only [hasAns] at h
    split at h
    · rename_i h1
      split at h
      · rename_i h2
        rw [AV.eq_of_beq _ _ h1, Mem.eq_of_beq _ _ h2]; simp
      · exact List.mem_cons_of_mem _ (hasAns_ok h)
    · exact List.mem_cons_of_mem _ (hasAns_ok h)
theorem once_mem : ∀ {l : List (AV × Mem)} {r : AV × Mem}, r ∈ l → r ∈ once l
  | [], r, h => by cases h
  | (v, M) :: l, r, h => by
    simp only [once]
    split
    · rename_i hh
      rcases List.mem_cons.1 h with rfl | h
      · exact once_mem (hasAns_ok hh)
      · exact once_mem h
    · rcases List.mem_cons.1 h with rfl | h
      · simp
      · exact List.mem_cons_of_mem _ (once_mem h)
theorem tidy_ok {n0 : Nat} {l : List (AV × Mem)} {r : AV × Mem} (hr : r ∈ l) (h : MR ν B w0 E r.2 w) (hk : r.2.k = r.2.n) : ∃ q ∈ tidy n0 l, q.1 = r.1 ∧ r.2.n ≤ q.2.n ∧ MR ν B w0 E q.2 w ∧ q.2.k = q.2.n := by
  unfold tidy
  split
  · cases hr
  · rename_i q
    have : r = q := by simpa using hr
    subst this
    exact ⟨r, by simp, rfl, Nat.le_refl _, h, hk⟩
  · have hn := (maxN_le (n := 0)).2 r hr
    exact ⟨(r.1, gc n0 _ r.1 r.2), once_mem (gcAll_mem hr), rfl, hn, h.gc hn _, rfl⟩

variable (P) in
/-- Calls, to a depth. -/
def calls (LF : Nat) : Nat → CF
  | 0, _, _, _ => none
  | n + 1, f, args, M => match nth P.funcs.toList f with
    | none => none
    | some fn => match fn.body with
      | none => none
      | some c => match ceval P (calls LF n) LF c ⟨argTmps args 0 .nil, args.length + (fn.ntmps - args.length), M⟩ with
        | none => none
        | some outs => match answers (fun s => match aresult P s fn.results.toList with
          | some vs => some (wrapRes vs)
          | none => none) outs with
          | some l => some (tidy M.n l)
          | none => none
theorem argTmps_get : ∀ (vs : List AV) (i : Nat) (t : T AV) (j : Nat), (argTmps vs i t).get j = if i ≤ j ∧ j < i + vs.length then vs[j - i]? else t.get j
  | [], i, t, j => by simp only [argTmps, List.length_nil]; rw [if_neg (by omega)]
  | v :: vs, i, t, j => by
    simp only [argTmps]
    rw [argTmps_get vs (i + 1) _ j, T.get_set _ _ _ _ _ (Nat.lt_succ_self i), List.length_cons]
    by_cases h1 : i = j
    · subst h1
      rw [if_neg (by omega), if_pos rfl, if_pos (by omega)]
      simp
    · by_cases h2 : i + 1 ≤ j ∧ j < i + 1 + vs.length
      · rw [if_pos h2, if_pos (by omega), show j - i = (j - (i + 1)) + 1 from by omega]
        simp
      · rw [if_neg h2, if_neg h1, if_neg (by omega)]
theorem answers_mem {f : St → Option AV} : ∀ {l : List (AX × St)} {outs : List (AV × Mem)}, answers f l = some outs → ∀ r ∈ l, (r.1 = .normal ∨ r.1 = .ret) ∧ ∃ v, f r.2 = some v ∧ (v, r.2.m) ∈ outs
  | [], outs, h, r, hr => by cases hr
  | (x, s) :: ss, outs, h, r, hr => by
    cases x with
    | exit id => simp only [answers] at h; cases h
    | normal =>
      simp only [answers] at h
      split at h
      case h_2 => cases h
      rename_i v hv
      split at h
      case h_2 => cases h
      rename_i l hl
      simp only [Option.some.injEq] at h; subst h
      rcases List.mem_cons.1 hr with rfl | hr
      · exact ⟨.inl rfl, v, hv, by simp⟩
      · obtain ⟨h1, u, h2, h3⟩ := answers_mem hl r hr
        exact ⟨h1, u, h2, by simp [h3]⟩
    | ret =>
      simp only [answers] at h
      split at h
      case h_2 => cases h
      rename_i v hv
      split at h
      case h_2 => cases h
      rename_i l hl
      simp only [Option.some.injEq] at h; subst h
      rcases List.mem_cons.1 hr with rfl | hr
      · exact ⟨.inr rfl, v, hv, by simp⟩
      · obtain ⟨h1, u, h2, h3⟩ := answers_mem hl r hr
        exact ⟨h1, u, h2, by simp [h3]⟩
theorem calls_ok (hmix : P.follows .mixedOrders = true) (LF : Nat) : ∀ n, CFok P (calls P LF n) ν B w0
  | 0 => fun f args M outs h => by simp only [calls] at h; cases h
  | n + 1 => fun f args M outs h hk E xs w hargs hMR => by
    simp only [calls] at h
    split at h
    · cases h
    rename_i fn hfn
    split at h
    · cases h
    rename_i c hc
    split at h
    · cases h
    rename_i outs' ho
    split at h
    case h_2 => cases h
    rename_i al hal
    simp only [Option.some.injEq] at h; subst h
    have hfn' : P.funcs[f]? = some fn := by rw [← Array.getElem?_toList, ← nth_eq]; exact hfn
    refine calls_of_wp hfn' hc (ceval_ok (calls_ok hmix LF n) hmix c _ outs' E _ w _ ho ⟨fun i v hv => ?_, ?_, rfl, hMR, hk⟩ fun r hr E' a' w' hlate hSR => ?_)
    · simp only at hv
      rw [argTmps_get] at hv
      split at hv
      · rename_i hi
        simp only [Nat.sub_zero] at hv
        obtain ⟨x, hx, hV⟩ := hargs.get hv
        refine ⟨x, ?_, hV⟩
        have hlt : i < xs.size := by have := (List.getElem?_eq_some_iff.1 hx).1; simpa using this
        simp only
        rw [Array.getElem?_append_left hlt, ← Array.getElem?_toList]
        exact hx
      · rw [T.get_nil] at hv; cases hv
    · have := hargs.length
      simp only [Array.length_toList] at this
      simp [this]
    · obtain ⟨hx, v, hv, hmem⟩ := answers_mem hal r hr
      split at hv
      case h_2 => cases hv
      rename_i vs hvs
      simp only [Option.some.injEq] at hv; subst hv
      obtain ⟨y, hy, hyV⟩ := results_ok hSR hvs
      obtain ⟨q, q1, q2, q3, q4, q5⟩ := tidy_ok (n0 := M.n) hmem hSR.mr hSR.kn
      simp only at q2 q3
      have : bodyPost P fn (fun e w' => ∃ r ∈ tidy M.n al, ∃ E' x, Late M.n E r.2.n E' ∧ e = .returned x ∧ V ν E' r.1 x ∧ MR ν B w0 E' r.2 w' ∧ r.2.k = r.2.n) .ret a' w' :=
        ⟨hSR.df, y, hy, q, q1, E', y, ⟨Nat.le_trans hlate.1 q3, hlate.2.1, hlate.2.2⟩, rfl, by rw [q2]; exact hyV, q4, q5⟩
      rcases hx with hx | hx
      · rw [hx]; exact this
      · rw [hx]; exact this

def isTrue : Option (List (AV × Mem)) → Bool
  | some l => all l
  | none => false
where all : List (AV × Mem) → Bool
  | [] => true
  | (.bool true, _) :: l => all l
  | _ => false
theorem isTrue_mem {o : Option (List (AV × Mem))} (h : isTrue o = true) : ∃ l, o = some l ∧ ∀ r ∈ l, r.1 = .bool true := by
  cases o with
  | none => cases h
  | some l =>
    refine ⟨l, rfl, ?_⟩
    simp only [isTrue] at h
    induction l with
    | nil => intro r hr; cases hr
    | cons q qs ih =>
      obtain ⟨v, M⟩ := q
      cases v <;> first | (simp only [isTrue.all] at h; cases h; done) | skip
      rename_i b
      cases b <;> first | (simp only [isTrue.all] at h; cases h; done) | skip
      simp only [isTrue.all] at h
      intro r hr
      rcases List.mem_cons.1 hr with rfl | hr
      · rfl
      · exact ih h r hr
/-- **What the little machine answers, the model answers in every world.** -/
theorem closed (hmix : P.follows .mixedOrders = true) {LF n : Nat} {f : FuncId} (h : isTrue (calls P LF n f [] Mem.start) = true) (w : World) :
    Calls P f #[] w fun e w' => e = .returned (.bool true) ∧ Below w.heap.size w w' := by
  obtain ⟨l, hl, hall⟩ := isTrue_mem h
  refine Calls.mono (calls_ok (ν := fun _ => undef) hmix LF n f [] Mem.start l hl rfl (fun _ => none) #[] w (by simp only [VL]) (MR.start w)) fun e w' he => ?_
  obtain ⟨r, hr, E', x, _, rfl, hx, hM, _⟩ := he
  rw [hall r hr] at hx
  exact ⟨by rw [hx.bool_inv], hM.low⟩
/-- The same where the call takes values of which nothing is asked. -/
theorem closedArgs (hmix : P.follows .mixedOrders = true) {LF n : Nat} {f : FuncId} {args : List AV} (h : isTrue (calls P LF n f args Mem.start) = true) (ν : Nat → Value) (xs : Array Value) (hx : VL ν (fun _ => none) args xs.toList) (w : World) :
    Calls P f xs w fun e w' => e = .returned (.bool true) ∧ Below w.heap.size w w' := by
  obtain ⟨l, hl, hall⟩ := isTrue_mem h
  refine Calls.mono (calls_ok (ν := ν) hmix LF n f args Mem.start l hl rfl (fun _ => none) xs w hx (MR.start w)) fun e w' he => ?_
  obtain ⟨r, hr, E', x, _, rfl, hx, hM, _⟩ := he
  rw [hall r hr] at hx
  exact ⟨by rw [hx.bool_inv], hM.low⟩
end

end Go.Proofs.Ytkcgchpflppmnaa.Ev
