/- The little machine whole: code, calls; what it answers, the model answers in every world. No program is walked here. -/
import Derived.Test.YtnidkdjapieinaaDoorEvW
import Derived.LoopN
noncomputable section
namespace Go.Proofs.YtnidkdjapieinaaDoor.Ev
open Go.RowKit
set_option linter.unusedSimpArgs false
set_option linter.unusedVariables false

section
variable {P : Program} {Φ : Facts}
variable {ν : Nat → Value} [FactsOk P ν Φ] {B : Zone} {w0 w : World} {E : Env} {M : Mem}
variable {a : Act}

inductive AX where
  | normal
  | exit (id : Nat)
  | ret
def AX.to : AX → Exit
  | .normal => .normal
  | .exit id => .exit id
  | .ret => .ret
def withX (x : AX) : List St → List (AX × St)
  | [] => []
  | s :: ss => (x, s) :: withX x ss
def inBlk (id : Nat) : List (AX × St) → List (AX × St)
  | [] => []
  | (.exit j, s) :: ss => (match Nat.beq j id with | true => (.normal, s) | false => (.exit j, s)) :: inBlk id ss
  | (x, s) :: ss => (x, s) :: inBlk id ss
def cNext (f : St → Option (List (AX × St))) (l : List (AX × St)) : Option (List (AX × St)) :=
  runAll (fun (r : AX × St) => match r.1 with
    | .normal => f r.2
    | x => some [(x, r.2)]) l
/-- What comes behind the answers of what was first. -/
def cThen (f : St → Option (List (AX × St))) (l : List (AX × St)) : Option (List (AX × St)) :=
  List.rec (motive := fun _ => Option (List (AX × St))) (some []) (fun q qs _ => List.rec (motive := fun _ => Option (List (AX × St)))
    (AX.rec (motive := fun _ => Option (List (AX × St))) (f q.2) (fun id => some [(.exit id, q.2)]) (some [(.ret, q.2)]) q.1) (fun _ _ _ => cNext f (q :: qs)) qs) l
/-- Rounds of a loop. -/
def rounds (f : St → Option (List (AX × St))) (n : Nat) (st : St) : Option (List (AX × St)) :=
  Nat.rec (motive := fun _ => St → Option (List (AX × St))) (fun _ => none) (fun _ ih st => Option.rec (motive := fun _ => Option (List (AX × St))) none (fun l => cThen ih l) (f st)) n st
theorem rounds_succ' (f : St → Option (List (AX × St))) (n : Nat) (st : St) : rounds f (n + 1) st = (match f st with
    | none => none
    | some l => match l with
      | [(.normal, s)] => rounds f n s
      | [(x, s)] => some [(x, s)]
      | l => runAll (fun (r : AX × St) => match r.1 with
        | .normal => rounds f n r.2
        | x => some [(x, r.2)]) l) := by
  show Option.rec (motive := fun _ => Option (List (AX × St))) none (fun l => cThen (rounds f n) l) (f st) = _
  cases f st with
  | none => rfl
  | some l => cases l with
    | nil => rfl
    | cons q qs => cases qs with
      | cons _ _ => obtain ⟨x, s⟩ := q; cases x <;> rfl
      | nil => obtain ⟨x, s⟩ := q; cases x <;> rfl
def cSeq (f g : St → Option (List (AX × St))) (st : St) : Option (List (AX × St)) :=
  Option.rec (motive := fun _ => Option (List (AX × St))) none (fun l => cThen g l) (f st)
def normals (l : List St) : List (AX × St) :=
  List.rec (motive := fun _ => List (AX × St)) [] (fun s _ ih => (.normal, s) :: ih) l
theorem normals_eq : ∀ l : List St, normals l = withX .normal l
  | [] => rfl
  | s :: ss => by show (AX.normal, s) :: normals ss = _; rw [normals_eq ss]; rfl
variable (P) (Φ) in
def cRegion (cf : CF) (ops : Array Oper) (draw : Bool) (st : St) : Option (List (AX × St)) :=
  Option.rec (motive := fun _ => Option (List (AX × St))) none (fun l => some (normals l)) (region P Φ cf ops draw st)
def cCond (c : Operand) (f g : St → Option (List (AX × St))) (st : St) : Option (List (AX × St)) :=
  match opnd st.t c with
  | some (.bool true) => f st
  | some (.bool false) => g st
  | _ => none
def cBlock (id : Nat) (f : St → Option (List (AX × St))) (st : St) : Option (List (AX × St)) :=
  Option.rec (motive := fun _ => Option (List (AX × St))) none (fun l => some (inBlk id l)) (f st)
variable (P) (Φ) in
def ceval (cf : CF) (LF : Nat) (c : Code) (st : St) : Option (List (AX × St)) :=
  Code.rec (motive := fun _ => St → Option (List (AX × St)))
    (fun st => some [(.normal, st)]) (fun _ ops draw st => cRegion P Φ cf ops draw st) (fun _ _ f g st => cSeq f g st) (fun c _ _ f g st => cCond c f g st) (fun id _ f st => cBlock id f st) (fun _ f st => rounds f LF st) (fun _ _ _ _ _ _ _ => none)
    (fun id st => some [(.exit id, st)]) (fun _ _ _ => none) (fun _ _ => none) (fun _ _ => none) (fun st => some [(.ret, st)]) (fun _ _ => none) c st
section
variable (cf : CF) (LF : Nat) (st : St)
variable (P) (Φ)
theorem ceval_skip : ceval P Φ cf LF .skip st = some [(.normal, st)] := rfl
theorem ceval_region (id : Nat) (ops : Array Oper) (draw : Bool) : ceval P Φ cf LF (.region id ops draw) st = (match region P Φ cf ops draw st with
    | some l => some (withX .normal l)
    | none => none) := by
  show cRegion P Φ cf ops draw st = _
  unfold cRegion
  cases region P Φ cf ops draw st with
  | none => rfl
  | some l => simp only [normals_eq]
theorem ceval_seq (x y : Code) : ceval P Φ cf LF (.seq x y) st = (match ceval P Φ cf LF x st with
    | none => none
    | some l => match l with
      | [(.normal, s)] => ceval P Φ cf LF y s
      | [(x, s)] => some [(x, s)]
      | l => runAll (fun (r : AX × St) => match r.1 with
        | .normal => ceval P Φ cf LF y r.2
        | x => some [(x, r.2)]) l) := by
  show cSeq (ceval P Φ cf LF x) (ceval P Φ cf LF y) st = _
  unfold cSeq
  cases ceval P Φ cf LF x st with
  | none => rfl
  | some l => cases l with
    | nil => rfl
    | cons q qs => cases qs with
      | cons _ _ => obtain ⟨x, s⟩ := q; cases x <;> rfl
      | nil => obtain ⟨x, s⟩ := q; cases x <;> rfl
theorem ceval_cond (c : Operand) (x y : Code) : ceval P Φ cf LF (.cond c x y) st = (match opnd st.t c with
    | some (.bool true) => ceval P Φ cf LF x st
    | some (.bool false) => ceval P Φ cf LF y st
    | _ => none) := rfl
theorem ceval_block (id : Nat) (c : Code) : ceval P Φ cf LF (.block id c) st = (match ceval P Φ cf LF c st with
    | some l => some (inBlk id l)
    | none => none) := by
  show cBlock id (ceval P Φ cf LF c) st = _
  unfold cBlock
  cases ceval P Φ cf LF c st <;> rfl
end

def Post (ν : Nat → Value) (B : Zone) (w0 : World) (E : Env) (n : Nat) (outs : List (AX × St)) (Q : Exit → Act → World → Prop) : Prop :=
  ∀ r ∈ outs, ∀ E' a' w', Late n E r.2.m.n E' → SR ν B w0 E' r.2 a' w' → Q r.1.to a' w'
theorem Post.later {n n' : Nat} {E' : Env} {outs outs' : List (AX × St)} {Q : Exit → Act → World → Prop} (h : Post ν B w0 E n outs Q) (hl : Late n E n' E') (hs : ∀ r ∈ outs', r ∈ outs) : Post ν B w0 E' n' outs' Q :=
  fun r hr E2 a2 w2 hl2 hSR => h r (hs r hr) E2 a2 w2 (hl.trans hl2) hSR
theorem rounds_ok {f : St → Option (List (AX × St))} {c : Code} {Q : Exit → Act → World → Prop}
    (hf : ∀ st outs E a w (R : Exit → Act → World → Prop), f st = some outs → SR ν B w0 E st a w → Post ν B w0 E st.m.n outs R → c.wp P R a w) :
    ∀ (n : Nat) (st : St) (outs : List (AX × St)) (E : Env) (a : Act) (w : World), rounds f n st = some outs → SR ν B w0 E st a w → Post ν B w0 E st.m.n outs Q → Code.rounds P c Q n a w
  | 0, st, outs, E, a, w, h, _, _ => by exact absurd (show (none : Option (List (AX × St))) = some outs from h) (by simp)
  | n + 1, st, outs, E, a, w, h, hSR, hP => by
    rw [rounds_succ'] at h
    split at h
    · cases h
    rename_i l hl
    rw [rounds_succ]
    refine hf st l E a w _ hl hSR ?_
    intro r hr E' a' w' hlate hSR'
    have key : ∀ (o : List (AX × St)), (match r.1 with | .normal => rounds f n r.2 | x => some [(x, r.2)]) = some o → (∀ x ∈ o, x ∈ outs) → Exit.then (Code.rounds P c Q n) Q r.1.to a' w' := by
      intro o ho hsub
      obtain ⟨x, s⟩ := r
      cases x with
      | normal =>
        simp only at ho
        exact rounds_ok hf n s o E' a' w' ho hSR' (hP.later hlate hsub)
      | exit id =>
        simp only [Option.some.injEq] at ho; subst ho
        exact hP _ (hsub _ (by simp)) E' a' w' hlate hSR'
      | ret =>
        simp only [Option.some.injEq] at ho; subst ho
        exact hP _ (hsub _ (by simp)) E' a' w' hlate hSR'
    split at h
    · rename_i s
      have : r = (.normal, s) := by simpa using hr
      subst this
      exact key outs h (fun _ hx => hx)
    · rename_i x s hx
      have : r = (x, s) := by simpa using hr
      subst this
      refine key outs ?_ (fun _ hx => hx)
      cases x with
      | normal => exact absurd rfl hx
      | exit id => exact h
      | ret => exact h
    · obtain ⟨o, h1, h2⟩ := runAll_mem h r hr
      exact key o h1 h2
theorem inBlk_mem {id : Nat} : ∀ {l : List (AX × St)} {r : AX × St}, r ∈ l → (match r.1 with | .exit j => (match Nat.beq j id with | true => (.normal, r.2) | false => (.exit j, r.2)) | x => (x, r.2)) ∈ inBlk id l
  | [], r, h => by cases h
  | q :: qs, r, h => by
    obtain ⟨x, s⟩ := q
    rcases List.mem_cons.1 h with rfl | h
    · cases x <;> simp [inBlk]
    · have := inBlk_mem (id := id) h
      cases x <;> simp only [inBlk, List.mem_cons] <;> exact .inr this
theorem withX_mem {x : AX} : ∀ {l : List St} {r : AX × St}, r ∈ withX x l → ∃ s ∈ l, r = (x, s)
  | [], r, h => by cases h
  | q :: qs, r, h => by
    simp only [withX, List.mem_cons] at h
    rcases h with rfl | h
    · exact ⟨q, by simp, rfl⟩
    · obtain ⟨s, h1, h2⟩ := withX_mem h; exact ⟨s, by simp [h1], h2⟩
theorem withX_in {x : AX} : ∀ {l : List St} {s : St}, s ∈ l → (x, s) ∈ withX x l
  | [], s, h => by cases h
  | q :: qs, s, h => by
    rcases List.mem_cons.1 h with rfl | h
    · simp [withX]
    · simp only [withX, List.mem_cons]; exact .inr (withX_in h)
theorem ceval_ok {cf : CF} (hcf : CFok P cf ν) (hmix : P.follows .mixedOrders = true) {LF : Nat} : ∀ (c : Code) (st : St) (outs : List (AX × St)) (E : Env) (a : Act) (w : World) (Q : Exit → Act → World → Prop),
    ceval P Φ cf LF c st = some outs → SR ν B w0 E st a w → Post ν B w0 E st.m.n outs Q → c.wp P Q a w
  | .skip, st, outs, E, a, w, Q, h, hSR, hP => by
    simp only [ceval_skip, Option.some.injEq] at h; subst h
    exact wp_skip (hP _ (List.mem_singleton.2 rfl) E a w (Late.refl _ _) hSR)
  | .region id ops draw, st, outs, E, a, w, Q, h, hSR, hP => by
    rw [ceval_region] at h
    split at h
    case h_2 => cases h
    rename_i l hl
    refine region_ok hcf hmix hl hSR fun st' hst' E' a' w' hlate hSR' => ?_
    have : (AX.normal, st') ∈ outs := by
      simp only [Option.some.injEq] at h; subst h
      exact withX_in hst'
    exact hP _ this E' a' w' hlate hSR'
  | .seq x y, st, outs, E, a, w, Q, h, hSR, hP => by
    rw [ceval_seq] at h
    split at h
    · cases h
    rename_i l hl
    refine wp_seq (ceval_ok hcf hmix x st l E a w _ hl hSR ?_)
    intro r hr E' a' w' hlate hSR'
    have key : ∀ (o : List (AX × St)), (match r.1 with | .normal => ceval P Φ cf LF y r.2 | x => some [(x, r.2)]) = some o → (∀ x ∈ o, x ∈ outs) → Exit.then (y.wp P Q) Q r.1.to a' w' := by
      intro o ho hsub
      obtain ⟨x, s⟩ := r
      cases x with
      | normal =>
        simp only at ho
        exact ceval_ok hcf hmix y s o E' a' w' Q ho hSR' (hP.later hlate hsub)
      | exit id =>
        simp only [Option.some.injEq] at ho; subst ho
        exact hP _ (hsub _ (by simp)) E' a' w' hlate hSR'
      | ret =>
        simp only [Option.some.injEq] at ho; subst ho
        exact hP _ (hsub _ (by simp)) E' a' w' hlate hSR'
    split at h
    · rename_i s
      have : r = (.normal, s) := by simpa using hr
      subst this
      exact key outs h (fun _ hx => hx)
    · rename_i x s hx
      have : r = (x, s) := by simpa using hr
      subst this
      refine key outs ?_ (fun _ hx => hx)
      cases x with
      | normal => exact absurd rfl hx
      | exit id => exact h
      | ret => exact h
    · obtain ⟨o, h1, h2⟩ := runAll_mem h r hr
      exact key o h1 h2
  | .cond c x y, st, outs, E, a, w, Q, h, hSR, hP => by
    rw [ceval_cond] at h
    split at h
    · rename_i hc
      exact wp_cond_true (opnd_ok hSR.tm hc).bool_inv (ceval_ok hcf hmix x st outs E a w Q h hSR hP)
    · rename_i hc
      exact wp_cond_false (opnd_ok hSR.tm hc).bool_inv (ceval_ok hcf hmix y st outs E a w Q h hSR hP)
    · cases h
  | .block id c, st, outs, E, a, w, Q, h, hSR, hP => by
    rw [ceval_block] at h
    split at h
    case h_2 => cases h
    rename_i l hl
    simp only [Option.some.injEq] at h; subst h
    refine wp_block (ceval_ok hcf hmix c st l E a w _ hl hSR ?_)
    intro r hr E' a' w' hlate hSR'
    have hm := inBlk_mem (id := id) hr
    obtain ⟨x, s⟩ := r
    cases x with
    | normal => exact hP _ hm E' a' w' hlate hSR'
    | ret => exact hP _ hm E' a' w' hlate hSR'
    | exit j =>
      simp only at hm
      simp only [AX.to, Exit.inBlock]
      by_cases e : j = id
      · subst e
        have hb : Nat.beq j j = true := by simp
        rw [hb] at hm
        rw [if_pos rfl]
        exact hP _ hm E' a' w' hlate hSR'
      · have hb : Nat.beq j id = false := by
          cases h' : Nat.beq j id with
          | true => exact absurd (Nat.eq_of_beq_eq_true h') e
          | false => rfl
        rw [hb] at hm
        rw [if_neg e]
        exact hP _ hm E' a' w' hlate hSR'
  | .loop c, st, outs, E, a, w, Q, h, hSR, hP => by
    have h : rounds (ceval P Φ cf LF c) LF st = some outs := h
    exact wp_loop_rounds LF (rounds_ok (fun st outs E a w R h1 h2 h3 => ceval_ok hcf hmix c st outs E a w R h1 h2 h3) LF st outs E a w h hSR hP)
  | .exit id, st, outs, E, a, w, Q, h, hSR, hP => by
    have h : some [(AX.exit id, st)] = some outs := h
    simp only [Option.some.injEq] at h; subst h
    exact wp_exit (hP _ (List.mem_singleton.2 rfl) E a w (Late.refl _ _) hSR)
  | .ret, st, outs, E, a, w, Q, h, hSR, hP => by
    have h : some [(AX.ret, st)] = some outs := h
    simp only [Option.some.injEq] at h; subst h
    exact wp_ret (hP _ (List.mem_singleton.2 rfl) E a w (Late.refl _ _) hSR)
  | .rangeFunc _ _ _ _, st, outs, E, a, w, Q, h, hSR, hP => by exact absurd (show (none : Option (List (AX × St))) = some outs from h) (by simp)
  | .scope _, st, outs, E, a, w, Q, h, hSR, hP => by exact absurd (show (none : Option (List (AX × St))) = some outs from h) (by simp)
  | .label _, st, outs, E, a, w, Q, h, hSR, hP => by exact absurd (show (none : Option (List (AX × St))) = some outs from h) (by simp)
  | .goto _, st, outs, E, a, w, Q, h, hSR, hP => by exact absurd (show (none : Option (List (AX × St))) = some outs from h) (by simp)
  | .refuse _, st, outs, E, a, w, Q, h, hSR, hP => by exact absurd (show (none : Option (List (AX × St))) = some outs from h) (by simp)

/-! ### calls -/
variable (P) (Φ) in
def aresult (st : St) : List ResultVar → Option (List AV)
  | [] => some []
  | .tmp i :: rs => match st.t.get i with
    | some v => match aresult st rs with
      | some vs => some (v :: vs)
      | none => none
    | none => none
  | .cell i ty :: rs => match st.t.get i with
    | some v => match aload P ty v st.m with
      | some (u, _) => match aresult st rs with
        | some vs => some (u :: vs)
        | none => none
      | none => none
    | none => none
def wrapRes : List AV → AV
  | [v] => v
  | vs => .tup vs
theorem aload_m {ty : TypeId} {v : AV} {r : AV × Mem} (h : aload P ty v M = some r) : r.2 = M := by
  rw [aload_eq] at h
  split at h
  case h_2 => cases h
  split at h
  case h_2 => cases h
  split at h
  · split at h
    case h_2 => cases h
    split at h
    case h_2 => cases h
    simp only [Option.some.injEq] at h; subst h; rfl
  · split at h
    case h_2 => cases h
    simp only [Option.some.injEq] at h; subst h; rfl
  · cases h
theorem aload_same (h : MR ν B w0 E M w) {ty : TypeId} {v : AV} {x : Value} (hv : V ν E v x) {r : AV × Mem} (hr : aload P ty v M = some r) : ∃ y, (Instr.loadAt ty x).run P w = .ok y w ∧ V ν E r.1 y := by
  rw [aload_eq] at hr
  split at hr
  case h_2 => cases hr
  rename_i b o
  split at hr
  case h_2 => cases hr
  rename_i K hK
  obtain ⟨p, hp, rfl⟩ := hv.ptr_inv
  split at hr
  · rename_i ha
    split at hr
    case h_2 => cases hr
    rename_i n hn
    split at hr
    case h_2 => cases hr
    rename_i l hl
    simp only [Option.some.injEq] at hr; subst hr
    obtain ⟨xs, hx, hrun2⟩ := h.loadCells P hK hp hl
    refine ⟨.agg xs.toArray, ?_, by simp only [V]; exact ⟨_, rfl, hx⟩⟩
    simp [Instr.loadAt, Instr.sureAddr, loadVar, run_isAgg' ha, run_sizeOf' hn, hrun2]
  · rename_i ha
    split at hr
    case h_2 => cases hr
    rename_i u hu
    simp only [Option.some.injEq] at hr; subst hr
    obtain ⟨x, hx, hV, _⟩ := h.cell hK hp hu
    refine ⟨x, ?_, hV⟩
    simp only [Instr.loadAt, Instr.sureAddr, Sem.run_bind, Sem.run_pure, Result.andThen_ok, loadVar, run_isAgg' ha, Bool.false_eq_true, if_false]
    exact run_load_cell hx
  · cases hr
theorem aresult_ok {st : St} (h : SR ν B w0 E st a w) : ∀ {rs : List ResultVar} {vs : List AV}, aresult P st rs = some vs → ∃ xs, VL ν E vs xs ∧ (rs.mapM (m := Sem) fun | .tmp t => pure (a.tmps.getD t undef) | .cell c t => do loadVar t (← asAddr (a.tmps.getD c undef))).run P w = .ok xs w
  | [], vs, hv => by simp only [aresult, Option.some.injEq] at hv; subst hv; exact ⟨[], by simp only [VL], rfl⟩
  | .tmp i :: rs, vs, hv => by
    simp only [aresult] at hv
    split at hv
    case h_2 => cases hv
    rename_i v h1
    split at hv
    case h_2 => cases hv
    rename_i us h2
    simp only [Option.some.injEq] at hv; subst hv
    obtain ⟨x, hx, hV⟩ := h.tm i v h1
    obtain ⟨xs, hL, hrun⟩ := aresult_ok h h2
    refine ⟨x :: xs, VL.cons_mk hV hL, ?_⟩
    simp only [List.mapM_cons, Sem.run_bind, Sem.run_pure, Result.andThen_ok, Array.getD_eq_getD_getElem?, hx, Option.getD_some]
    simp only [Array.getD_eq_getD_getElem?] at hrun
    rw [hrun]; rfl
  | .cell i ty :: rs, vs, hv => by
    simp only [aresult] at hv
    split at hv
    case h_2 => cases hv
    rename_i v h1
    split at hv
    case h_2 => cases hv
    rename_i u M' hl
    split at hv
    case h_2 => cases hv
    rename_i us h2
    simp only [Option.some.injEq] at hv; subst hv
    obtain ⟨x, hx, hV⟩ := h.tm i v h1
    obtain ⟨xs, hL, hrun⟩ := aresult_ok h h2
    obtain ⟨y, hy, hyV⟩ := aload_same h.mr hV hl
    refine ⟨y :: xs, VL.cons_mk hyV hL, ?_⟩
    have hptr : ∃ ad, x = .pointer (some ad) := by
      rw [aload_eq] at hl
      split at hl
      case h_2 => cases hl
      obtain ⟨p, _, rfl⟩ := hV.ptr_inv
      exact ⟨_, rfl⟩
    obtain ⟨ad, rfl⟩ := hptr
    simp only [Instr.loadAt, Instr.sureAddr, Sem.run_bind, Sem.run_pure, Result.andThen_ok] at hy
    simp only [List.mapM_cons, Sem.run_bind, Sem.run_pure, Result.andThen_ok, Array.getD_eq_getD_getElem?, hx, Option.getD_some, asAddr, hy]
    simp only [Array.getD_eq_getD_getElem?, asAddr] at hrun
    rw [hrun]; rfl
theorem results_ok {st : St} (h : SR ν B w0 E st a w) {fn : Func} {vs : List AV} (hv : aresult P st fn.results.toList = some vs) : ∃ x, (results fn a.tmps).run P w = .ok x w ∧ V ν E (wrapRes vs) x := by
  obtain ⟨xs, hL, hrun⟩ := aresult_ok h hv
  have hm : (fn.results.mapM (m := Sem) fun | .tmp t => pure (a.tmps.getD t undef) | .cell c t => do loadVar t (← asAddr (a.tmps.getD c undef))).run P w = .ok xs.toArray w := by
    rw [Array.mapM_eq_mapM_toList]
    simp only [Sem.run_map, hrun, Result.andThen_ok]
  have hlen := hL.length
  by_cases h1 : xs.length = 1
  · obtain ⟨x, rfl⟩ := List.length_eq_one_iff.1 h1
    obtain ⟨v, rfl⟩ := List.length_eq_one_iff.1 (by rw [← hlen]; exact h1)
    simp only [VL] at hL
    obtain ⟨y, ys, he, hV, _⟩ := hL
    simp only [List.cons.injEq] at he
    obtain ⟨rfl, _⟩ := he
    refine ⟨x, ?_, hV⟩
    unfold results
    simp only [Sem.run_bind]
    erw [hm]
    simp
  · refine ⟨.tuple xs.toArray, ?_, ?_⟩
    · unfold results
      simp only [Sem.run_bind]
      erw [hm]
      simp [h1]
    · have : wrapRes vs = .tup vs := by
        cases vs with
        | nil => rfl
        | cons v vs => cases vs with
          | nil => simp at hlen; omega
          | cons => rfl
      rw [this]
      simp only [V]
      exact ⟨_, rfl, hL⟩

def argTmps : List AV → Nat → T AV → T AV
  | [], _, t => t
  | v :: vs, i, t => argTmps vs (i + 1) (t.set (i + 1) i v)
def answers (f : St → Option AV) : List (AX × St) → Option (List (AV × Mem))
  | [] => some []
  | (.exit _, _) :: _ => none
  | (_, s) :: ss => match f s with
    | some v => match answers f ss with
      | some l => some ((v, s.m) :: l)
      | none => none
    | none => none
/-! ### what nobody can reach is forgotten, and what is alike is one -/
/-- The numbers of blocks that a value names. -/
def refs (v : AV) (acc : List Nat) : List Nat :=
  AV.rec (motive_1 := fun _ => List Nat → List Nat) (motive_2 := fun _ => List Nat → List Nat)
    (fun _ acc => acc) (fun _ _ acc => acc) (fun _ acc => acc) (fun b _ acc => b :: acc) (fun acc => acc) (fun b _ _ _ acc => b :: acc) (fun b _ _ _ acc => b :: acc) (fun acc => acc) (fun acc => acc) (fun b acc => b :: acc) (fun acc => acc)
    (fun _ _ _ i j acc => i (j acc)) (fun acc => acc) (fun _ _ i acc => i acc) (fun acc => acc) (fun _ i acc => i acc) (fun _ i acc => i acc) (fun _ acc => acc) (fun acc => acc) (fun _ _ i j acc => i (j acc)) v acc
def refsL (l : List AV) (acc : List Nat) : List Nat :=
  List.rec (motive := fun _ => List Nat → List Nat) (fun acc => acc) (fun v _ ih acc => ih (refs v acc)) l acc
def refsT (t : T AV) (acc : List Nat) : List Nat :=
  T.rec (motive := fun _ => List Nat → List Nat) (fun acc => acc) (fun v _ _ fl fr acc => fl (fr (Option.rec (motive := fun _ => List Nat) acc (fun a => refs a acc) v))) t acc
def refsE (es : List (AV × AV × Nat)) (acc : List Nat) : List Nat :=
  List.rec (motive := fun _ => List Nat → List Nat) (fun acc => acc) (fun e _ ih acc => ih (refs e.1 (refs e.2.1 acc))) es acc
def refsP (es : List (AV × AV)) (acc : List Nat) : List Nat :=
  List.rec (motive := fun _ => List Nat → List Nat) (fun acc => acc) (fun e _ ih acc => ih (refs e.1 (refs e.2 acc))) es acc
def refsObj (o : AObj) (acc : List Nat) : List Nat :=
  AObj.rec (motive := fun _ => List Nat → List Nat) (fun B acc => refsT B.u (refsL B.base acc)) (fun es _ acc => refsE es acc) (fun m _ _ _ acc => Option.rec (motive := fun _ => List Nat) acc (fun m => m :: acc) m) (fun _ _ acc => acc) (fun es acc => refsP es acc) o acc
/-- The old blocks' names. Element j of this part of the trie has number m * j + p. -/
def oldRefsAt (n0 p : Nat) (v : Option (Option AObj)) (acc : List Nat) : List Nat :=
  Option.rec (motive := fun _ => List Nat) acc (fun o => Option.rec (motive := fun _ => List Nat) acc (fun o => Bool.rec (motive := fun _ => List Nat) acc (refsObj o acc) (Nat.blt p n0)) o) v
def oldRefs (n0 : Nat) (t : T (Option AObj)) (m p : Nat) (acc : List Nat) : List Nat :=
  T.rec (motive := fun _ => Nat → Nat → Nat → List Nat → List Nat) (fun _ _ _ acc => acc)
    (fun v _ _ fl fr n0 m p acc => fl n0 (Nat.mul 2 m) (Nat.add p m) (fr n0 (Nat.mul 2 m) (Nat.add p (Nat.mul 2 m)) (oldRefsAt n0 p v acc))) t n0 m p acc
/-- What can be reached, from number n0 on. -/
def reach (M : Mem) (n0 : Nat) : Nat → List Nat → T Unit → T Unit
  | 0, _, acc => acc
  | _ + 1, [], acc => acc
  | f + 1, b :: bs, acc => match Nat.blt b n0 with
    | true => reach M n0 f bs acc
    | false => match acc.get b with
      | some _ => reach M n0 f bs acc
      | none => match M.get b with
        | some o => reach M n0 f (refsObj o bs) (T.set (b + 1) acc b ())
        | none => reach M n0 f bs acc
def T.mk {α : Type} (v : Option α) (l r : T α) : T α :=
  Option.rec (motive := fun _ => T α) (T.rec (motive := fun _ => T α) (T.rec (motive := fun _ => T α) .nil (fun _ _ _ _ _ => .node v l r) r) (fun _ _ _ _ _ => .node v l r) l) (fun _ => .node v l r) v
/-- The old blocks, and the new ones that were reached. -/
def keepAt (n0 p : Nat) (S : T Unit) (v : Option (Option AObj)) : Option (Option AObj) :=
  Option.rec (motive := fun _ => Option (Option AObj)) none (fun o => Option.rec (motive := fun _ => Option (Option AObj)) none (fun _ => Bool.rec (motive := fun _ => Option (Option AObj)) (Option.rec (motive := fun _ => Option (Option AObj)) none (fun _ => v) (S.get p)) v (Nat.blt p n0)) o) v
def keep (n0 : Nat) (S : T Unit) (t : T (Option AObj)) (m p : Nat) : T (Option AObj) :=
  T.rec (motive := fun _ => Nat → T Unit → Nat → Nat → T (Option AObj)) (fun _ _ _ _ => .nil)
    (fun v _ _ fl fr n0 S m p => T.mk (keepAt n0 p S v) (fl n0 S (Nat.mul 2 m) (Nat.add p m)) (fr n0 S (Nat.mul 2 m) (Nat.add p (Nat.mul 2 m)))) t n0 S m p
def gc (n0 n : Nat) (v : AV) (M : Mem) : Mem := ⟨keep n0 (reach M n0 100000 (refs v (oldRefs n0 M.h 1 0 [])) .nil) M.h 1 0, n, n⟩
def maxN : List (AV × Mem) → Nat → Nat
  | [], n => n
  | (_, M) :: l, n => maxN l (match Nat.blt n M.n with | true => M.n | false => n)
def gcAll (n0 n : Nat) : List (AV × Mem) → List (AV × Mem)
  | [] => []
  | (v, M) :: l => (v, gc n0 n v M) :: gcAll n0 n l
def hasAns (v : AV) (M : Mem) : List (AV × Mem) → Bool
  | [] => false
  | (u, M') :: l => match AV.beq v u with
    | true => match Mem.beq M M' with
      | true => true
      | false => hasAns v M l
    | false => hasAns v M l
def once : List (AV × Mem) → List (AV × Mem)
  | [] => []
  | (v, M) :: l => match hasAns v M l with
    | true => once l
    | false => (v, M) :: once l
def tidy (n0 : Nat) (l : List (AV × Mem)) : List (AV × Mem) := match l with
  | [] => []
  | [r] => [r]
  | l => once (gcAll n0 (maxN l 0) l)
theorem T.get_mk {α : Type} (v : Option α) (l r : T α) (j : Nat) : (T.mk v l r).get j = (T.node v l r).get j := by
  cases v with
  | some x => rfl
  | none => cases l with
    | node _ _ _ => rfl
    | nil => cases r with
      | node _ _ _ => rfl
      | nil =>
        show (T.nil : T α).get j = _
        cases j with
        | zero => rfl
        | succ j => rw [T.get_node]; split <;> rfl
theorem keepAt_sub {n0 p : Nat} {S : T Unit} {v : Option (Option AObj)} {o : AObj} (h : keepAt n0 p S v = some (some o)) : v = some (some o) := by
  cases v with
  | none => cases h
  | some v => cases v with
    | none => cases h
    | some x =>
      have h' : Bool.rec (motive := fun _ => Option (Option AObj)) (Option.rec (motive := fun _ => Option (Option AObj)) none (fun _ => some (some x)) (S.get p)) (some (some x)) (Nat.blt p n0) = some (some o) := h
      cases e : Nat.blt p n0 with
      | true => rw [e] at h'; exact h'
      | false =>
        rw [e] at h'
        cases e2 : S.get p with
        | none => rw [e2] at h'; cases h'
        | some _ => rw [e2] at h'; exact h'
theorem keep_sub {n0 : Nat} {S : T Unit} {o : AObj} : ∀ (t : T (Option AObj)) (m p j : Nat), (keep n0 S t m p).get j = some (some o) → t.get j = some (some o)
  | .nil, m, p, j, h => h
  | .node v l r, m, p, j, h => by
    have h : (T.mk (keepAt n0 p S v) (keep n0 S l (2 * m) (p + m)) (keep n0 S r (2 * m) (p + 2 * m))).get j = some (some o) := h
    rw [T.get_mk] at h
    cases j with
    | zero =>
      rw [T.get_zero] at h
      rw [T.get_zero]
      exact keepAt_sub h
    | succ j =>
      rw [T.get_node] at h
      rw [T.get_node]
      split at h
      · rename_i e; rw [if_pos e]; exact keep_sub l _ _ _ h
      · rename_i e; rw [if_neg e]; exact keep_sub r _ _ _ h
theorem MR.gc (h : MR ν B w0 E M w) {n0 n : Nat} (hn : M.n ≤ n) (v : AV) : MR ν B w0 E (gc n0 n v M) w := by
  refine h.congr (fun b o hb => ?_) hn ?_
  · unfold Ev.gc Mem.get at hb
    simp only at hb
    split at hb
    · rename_i q hq
      simp only [Option.some.injEq] at hb; subst hb
      have := keep_sub _ _ _ _ hq
      obtain ⟨h1, h2, h3⟩ := M
      unfold Mem.get
      simp only at this ⊢
      rw [this]
    · cases hb
  · show E n = none
    cases e : E n with
    | none => rfl
    | some p => have := h.dom _ p e; omega
theorem maxN_le : ∀ {l : List (AV × Mem)} {n : Nat}, n ≤ maxN l n ∧ ∀ r ∈ l, r.2.n ≤ maxN l n
  | [], n => ⟨Nat.le_refl _, fun r hr => by cases hr⟩
  | (v, M) :: l, n => by
    simp only [maxN]
    have key : ∀ k, n ≤ k → M.n ≤ k → n ≤ maxN l k ∧ ∀ r ∈ (v, M) :: l, r.2.n ≤ maxN l k := by
      intro k h1 h2
      obtain ⟨g1, g2⟩ := maxN_le (l := l) (n := k)
      refine ⟨by omega, fun r hr => ?_⟩
      rcases List.mem_cons.1 hr with rfl | hr
      · simp only; omega
      · exact g2 r hr
    split
    · rename_i h; have h := blt_iff.1 h; exact key _ (by omega) (Nat.le_refl _)
    · rename_i h
      have h : ¬ n < M.n := fun hh => by rw [blt_iff.2 hh] at h; cases h
      exact key _ (Nat.le_refl _) (by omega)
theorem gcAll_mem {n0 n : Nat} : ∀ {l : List (AV × Mem)} {r : AV × Mem}, r ∈ l → (r.1, gc n0 n r.1 r.2) ∈ gcAll n0 n l
  | [], r, h => by cases h
  | (v, M) :: l, r, h => by
    simp only [gcAll, List.mem_cons]
    rcases List.mem_cons.1 h with rfl | h
    · exact .inl rfl
    · exact .inr (gcAll_mem h)
theorem hasAns_ok {v : AV} {M : Mem} : ∀ {l : List (AV × Mem)}, hasAns v M l = true → (v, M) ∈ l
  | [], h => by cases h
  | (u, M') :: l, h => by
    simp only [hasAns] at h
    split at h
    · rename_i h1
      split at h
      · rename_i h2
        rw [AV.eq_of_beq _ _ h1, Mem.eq_of_beq _ _ h2]; simp
      · exact List.mem_cons_of_mem _ (hasAns_ok h)
    · exact List.mem_cons_of_mem _ (hasAns_ok h)
theorem once_mem : ∀ {l : List (AV × Mem)} {r : AV × Mem}, r ∈ l → r ∈ once l
  | [], r, h => by cases h
  | (v, M) :: l, r, h => by
    simp only [once]
    split
    · rename_i hh
      rcases List.mem_cons.1 h with rfl | h
      · exact once_mem (hasAns_ok hh)
      · exact once_mem h
    · rcases List.mem_cons.1 h with rfl | h
      · simp
      · exact List.mem_cons_of_mem _ (once_mem h)
theorem tidy_ok {n0 : Nat} {l : List (AV × Mem)} {r : AV × Mem} (hr : r ∈ l) (h : MR ν B w0 E r.2 w) (hk : r.2.k = r.2.n) : ∃ q ∈ tidy n0 l, q.1 = r.1 ∧ r.2.n ≤ q.2.n ∧ MR ν B w0 E q.2 w ∧ q.2.k = q.2.n := by
  unfold tidy
  split
  · cases hr
  · rename_i q
    have : r = q := by simpa using hr
    subst this
    exact ⟨r, by simp, rfl, Nat.le_refl _, h, hk⟩
  · have hn := (maxN_le (n := 0)).2 r hr
    exact ⟨(r.1, gc n0 _ r.1 r.2), once_mem (gcAll_mem hr), rfl, hn, h.gc hn _, rfl⟩

variable (P) (Φ) in
/-- A call, when what its own calls do is known. -/
def callBody (LF : Nat) (cf : CF) (f : FuncId) (args : List AV) (M : Mem) : Option (List (AV × Mem)) := match nth P.funcs.toList f with
  | none => none
  | some fn => match fn.body with
    | none => none
    | some c => match ceval P Φ cf LF c ⟨argTmps args 0 .nil, args.length + (fn.ntmps - args.length), M⟩ with
      | none => none
      | some outs => match answers (fun s => match aresult P s fn.results.toList with
        | some vs => some (wrapRes vs)
        | none => none) outs with
        | some l => some (tidy M.n l)
        | none => none
variable (P) (Φ) in
/-- Calls, to a depth. -/
def calls (LF : Nat) : Nat → CF
  | 0, _, _, _ => none
  | n + 1, f, args, M => callBody P Φ LF (calls LF n) f args M
def inK (K : List Nat) (f : Nat) (args : List AV) : Bool :=
  List.rec (motive := fun _ => Bool) (List.rec (motive := fun _ => Bool) false (fun k _ ih => Bool.rec (motive := fun _ => Bool) ih true (Nat.beq k f)) K) (fun _ _ _ => false) args
variable (P) (Φ) in
/-- Calls, to a depth, where some calls' answers are known. -/
def callsT (K : CF) (LF : Nat) : Nat → CF
  | 0, _, _, _ => none
  | n + 1, f, args, M => Option.rec (motive := fun _ => Option (List (AV × Mem))) (callBody P Φ LF (callsT K LF n) f args M) (fun r => some r) (K f args M)
/-- The closed calls K are known to answer true. -/
def knownT (K : List Nat) : CF := fun f args M => Bool.rec (motive := fun _ => Option (List (AV × Mem))) none (some [(.bool true, M)]) (inK K f args)
/-- One known table, then another. -/
def orT (K K' : CF) : CF := fun f args M => Option.rec (motive := fun _ => Option (List (AV × Mem))) (K' f args M) (fun r => some r) (K f args M)
variable (P) (Φ) in
/-- Calls, to a depth, where the closed calls K are known to answer true. -/
abbrev callsK (K : List Nat) (LF : Nat) : Nat → CF := callsT P Φ (knownT K) LF
theorem argTmps_get : ∀ (vs : List AV) (i : Nat) (t : T AV) (j : Nat), (argTmps vs i t).get j = if i ≤ j ∧ j < i + vs.length then vs[j - i]? else t.get j
  | [], i, t, j => by simp only [argTmps, List.length_nil]; rw [if_neg (by omega)]
  | v :: vs, i, t, j => by
    simp only [argTmps]
    rw [argTmps_get vs (i + 1) _ j, T.get_set _ _ _ _ _ (Nat.lt_succ_self i), List.length_cons]
    by_cases h1 : i = j
    · subst h1
      rw [if_neg (by omega), if_pos rfl, if_pos (by omega)]
      simp
    · by_cases h2 : i + 1 ≤ j ∧ j < i + 1 + vs.length
      · rw [if_pos h2, if_pos (by omega), show j - i = (j - (i + 1)) + 1 from by omega]
        simp
      · rw [if_neg h2, if_neg h1, if_neg (by omega)]
theorem answers_mem {f : St → Option AV} : ∀ {l : List (AX × St)} {outs : List (AV × Mem)}, answers f l = some outs → ∀ r ∈ l, (r.1 = .normal ∨ r.1 = .ret) ∧ ∃ v, f r.2 = some v ∧ (v, r.2.m) ∈ outs
  | [], outs, h, r, hr => by cases hr
  | (x, s) :: ss, outs, h, r, hr => by
    cases x with
    | exit id => simp only [answers] at h; cases h
    | normal =>
      simp only [answers] at h
      split at h
      case h_2 => cases h
      rename_i v hv
      split at h
      case h_2 => cases h
      rename_i l hl
      simp only [Option.some.injEq] at h; subst h
      rcases List.mem_cons.1 hr with rfl | hr
      · exact ⟨.inl rfl, v, hv, by simp⟩
      · obtain ⟨h1, u, h2, h3⟩ := answers_mem hl r hr
        exact ⟨h1, u, h2, by simp [h3]⟩
    | ret =>
      simp only [answers] at h
      split at h
      case h_2 => cases h
      rename_i v hv
      split at h
      case h_2 => cases h
      rename_i l hl
      simp only [Option.some.injEq] at h; subst h
      rcases List.mem_cons.1 hr with rfl | hr
      · exact ⟨.inr rfl, v, hv, by simp⟩
      · obtain ⟨h1, u, h2, h3⟩ := answers_mem hl r hr
        exact ⟨h1, u, h2, by simp [h3]⟩
theorem callBody_ok (hmix : P.follows .mixedOrders = true) (LF : Nat) {cf : CF} (hcf : CFok P cf ν) : CFok P (callBody P Φ LF cf) ν := by
  intro B w0 f args M outs h hk E xs w hargs hMR
  unfold callBody at h
  split at h
  · cases h
  rename_i fn hfn
  split at h
  · cases h
  rename_i c hc
  split at h
  · cases h
  rename_i outs' ho
  split at h
  case h_2 => cases h
  rename_i al hal
  simp only [Option.some.injEq] at h; subst h
  have hfn' : P.funcs[f]? = some fn := by rw [← Array.getElem?_toList, ← nth_eq]; exact hfn
  refine calls_of_wp hfn' hc (ceval_ok hcf hmix c _ outs' E _ w _ ho ⟨fun i v hv => ?_, ?_, rfl, hMR, hk⟩ fun r hr E' a' w' hlate hSR => ?_)
  · simp only at hv
    rw [argTmps_get] at hv
    split at hv
    · rename_i hi
      simp only [Nat.sub_zero] at hv
      obtain ⟨x, hx, hV⟩ := hargs.get hv
      refine ⟨x, ?_, hV⟩
      have hlt : i < xs.size := by have := (List.getElem?_eq_some_iff.1 hx).1; simpa using this
      simp only
      rw [Array.getElem?_append_left hlt, ← Array.getElem?_toList]
      exact hx
    · rw [T.get_nil] at hv; cases hv
  · have := hargs.length
    simp only [Array.length_toList] at this
    simp [this]
  · obtain ⟨hx, v, hv, hmem⟩ := answers_mem hal r hr
    split at hv
    case h_2 => cases hv
    rename_i vs hvs
    simp only [Option.some.injEq] at hv; subst hv
    obtain ⟨y, hy, hyV⟩ := results_ok hSR hvs
    obtain ⟨q, q1, q2, q3, q4, q5⟩ := tidy_ok (n0 := M.n) hmem hSR.mr hSR.kn
    simp only at q2 q3
    have : bodyPost P fn (fun e w' => ∃ r ∈ tidy M.n al, ∃ E' x, Late M.n E r.2.n E' ∧ e = .returned x ∧ V ν E' r.1 x ∧ MR ν B w0 E' r.2 w' ∧ r.2.k = r.2.n) .ret a' w' :=
      ⟨hSR.df, y, hy, q, q1, E', y, ⟨Nat.le_trans hlate.1 q3, hlate.2.1, hlate.2.2⟩, rfl, by rw [q2]; exact hyV, q4, q5⟩
    rcases hx with hx | hx
    · rw [hx]; exact this
    · rw [hx]; exact this
theorem calls_ok (hmix : P.follows .mixedOrders = true) (LF : Nat) : ∀ n, CFok P (calls P Φ LF n) ν
  | 0 => fun B w0 f args M outs h => by simp only [calls] at h; cases h
  | n + 1 => fun B w0 f args M outs h => callBody_ok hmix LF (calls_ok hmix LF n) B w0 f args M outs (by simpa only [calls] using h)
theorem inK_ok {K : List Nat} {f : Nat} {args : List AV} (h : inK K f args = true) : args = [] ∧ f ∈ K := by
  cases args with
  | cons v vs => cases h
  | nil =>
    refine ⟨rfl, ?_⟩
    induction K with
    | nil => cases h
    | cons k ks ih =>
      have h' : Bool.rec (motive := fun _ => Bool) (inK ks f []) true (Nat.beq k f) = true := h
      cases e : Nat.beq k f with
      | true => rw [Nat.eq_of_beq_eq_true e]; simp
      | false => rw [e] at h'; exact List.mem_cons_of_mem _ (ih h')
theorem MR.below {w' : World} (h : MR ν B w0 E M w) (hb : Below w.heap.size w w') : MR ν B w0 E M w' :=
  ⟨h.low.trans (hb.mono h.big), fun p o k => (hb.block _ (Array.getElem?_eq_some_iff.1 (h.kept p o k)).1).trans (h.kept p o k), Nat.le_trans h.big hb.size, h.dom, h.free, h.rng, h.off, fun b o k => let ⟨p, e, r⟩ := h.obj b o k; ⟨p, e, r.mono (Env.le_refl E) (hb.block _ r.lt)⟩, h.inj⟩
def KnownCalls (P : Program) (K : List Nat) : Prop := ∀ f ∈ K, ∀ w, Calls P f #[] w fun e w' => e = .returned (.bool true) ∧ Below w.heap.size w w'
theorem callsT_ok {K : CF} (hK : CFok P K ν) (hmix : P.follows .mixedOrders = true) (LF : Nat) : ∀ n, CFok P (callsT P Φ K LF n) ν
  | 0 => fun B w0 f args M outs h => by simp only [callsT] at h; cases h
  | n + 1 => fun B w0 f args M outs h hk E xs w hargs hMR => by
    simp only [callsT] at h
    cases e : K f args M with
    | none =>
      rw [e] at h
      exact callBody_ok hmix LF (callsT_ok hK hmix LF n) B w0 f args M outs h hk E xs w hargs hMR
    | some r =>
      rw [e] at h
      have h : some r = some outs := h
      simp only [Option.some.injEq] at h; subst h
      exact hK B w0 f args M _ e hk E xs w hargs hMR
theorem orT_ok {K K' : CF} (h : CFok P K ν) (h' : CFok P K' ν) : CFok P (orT K K') ν := fun B w0 f args M outs ho => by
  unfold orT at ho
  cases e : K f args M with
  | none => rw [e] at ho; exact h' B w0 f args M outs ho
  | some r =>
    rw [e] at ho
    have ho : some r = some outs := ho
    simp only [Option.some.injEq] at ho; subst ho
    exact h B w0 f args M _ e
theorem knownT_ok {K : List Nat} (hK : KnownCalls P K) : CFok P (knownT K) ν := fun B w0 f args M outs h hk E xs w hargs hMR => by
  unfold knownT at h
  cases e : inK K f args with
  | false => rw [e] at h; have h : none = some outs := h; cases h
  | true =>
    rw [e] at h
    have h : some [(AV.bool true, M)] = some outs := h
    simp only [Option.some.injEq] at h; subst h
    obtain ⟨rfl, hf⟩ := inK_ok e
    have hx : xs = #[] := by
      have := hargs.length
      cases xs with | mk l => cases l with | nil => rfl | cons _ _ => simp at this
    subst hx
    refine Calls.mono (hK f hf w) fun e w' ⟨he, hb⟩ => ?_
    exact ⟨_, List.mem_singleton.2 rfl, E, .bool true, Late.refl _ _, he, by simp only [V], hMR.below hb, hk⟩

def isTrue : Option (List (AV × Mem)) → Bool
  | some l => all l
  | none => false
where all : List (AV × Mem) → Bool
  | [] => true
  | (.bool true, _) :: l => all l
  | _ => false
theorem isTrue_mem {o : Option (List (AV × Mem))} (h : isTrue o = true) : ∃ l, o = some l ∧ ∀ r ∈ l, r.1 = .bool true := by
  cases o with
  | none => cases h
  | some l =>
    refine ⟨l, rfl, ?_⟩
    simp only [isTrue] at h
    induction l with
    | nil => intro r hr; cases hr
    | cons q qs ih =>
      obtain ⟨v, M⟩ := q
      cases v <;> first | (simp only [isTrue.all] at h; cases h; done) | skip
      rename_i b
      cases b <;> first | (simp only [isTrue.all] at h; cases h; done) | skip
      simp only [isTrue.all] at h
      intro r hr
      rcases List.mem_cons.1 hr with rfl | hr
      · rfl
      · exact ih h r hr
/-- **What the little machine answers, the model answers in every world.** -/
theorem closed (hmix : P.follows .mixedOrders = true) {LF n : Nat} {f : FuncId} (h : isTrue (calls P noFacts LF n f [] Mem.start) = true) (w : World) :
    Calls P f #[] w fun e w' => e = .returned (.bool true) ∧ Below w.heap.size w w' := by
  obtain ⟨l, hl, hall⟩ := isTrue_mem h
  refine Calls.mono (calls_ok (ν := fun _ => undef) hmix LF n _ _ f [] Mem.start l hl rfl (fun _ => none) #[] w (by simp only [VL]) (MR.start w)) fun e w' he => ?_
  obtain ⟨r, hr, E', x, _, rfl, hx, hM, _⟩ := he
  rw [hall r hr] at hx
  exact ⟨by rw [hx.bool_inv], hM.low⟩
/-- The same where some calls' answers are known. -/
theorem closedT {ν : Nat → Value} [FactsOk P ν Φ] {K : CF} (hK : CFok P K ν) (hmix : P.follows .mixedOrders = true) {LF n : Nat} {f : FuncId} {args : List AV} (h : isTrue (callsT P Φ K LF n f args Mem.start) = true) (xs : Array Value) (hx : VL ν (fun _ => none) args xs.toList) (w : World) :
    Calls P f xs w fun e w' => e = .returned (.bool true) ∧ Below w.heap.size w w' := by
  obtain ⟨l, hl, hall⟩ := isTrue_mem h
  refine Calls.mono (callsT_ok hK hmix LF n _ _ f args Mem.start l hl rfl (fun _ => none) xs w hx (MR.start w)) fun e w' he => ?_
  obtain ⟨r, hr, E', x, _, rfl, hx, hM, _⟩ := he
  rw [hall r hr] at hx
  exact ⟨by rw [hx.bool_inv], hM.low⟩
/-- The same where some closed calls are known to answer true. -/
theorem closedK {K : List Nat} (hK : KnownCalls P K) (hmix : P.follows .mixedOrders = true) {LF n : Nat} {f : FuncId} {args : List AV} (h : isTrue (callsK P Φ K LF n f args Mem.start) = true) (ν : Nat → Value) [FactsOk P ν Φ] (xs : Array Value) (hx : VL ν (fun _ => none) args xs.toList) (w : World) :
    Calls P f xs w fun e w' => e = .returned (.bool true) ∧ Below w.heap.size w w' := closedT (knownT_ok hK) hmix h xs hx w
/-- The same where the call takes values of which nothing is asked. -/
theorem closedArgs (hmix : P.follows .mixedOrders = true) {LF n : Nat} {f : FuncId} {args : List AV} (h : isTrue (calls P Φ LF n f args Mem.start) = true) (ν : Nat → Value) [FactsOk P ν Φ] (xs : Array Value) (hx : VL ν (fun _ => none) args xs.toList) (w : World) :
    Calls P f xs w fun e w' => e = .returned (.bool true) ∧ Below w.heap.size w w' := by
  obtain ⟨l, hl, hall⟩ := isTrue_mem h
  refine Calls.mono (calls_ok (ν := ν) hmix LF n _ _ f args Mem.start l hl rfl (fun _ => none) xs w hx (MR.start w)) fun e w' he => ?_
  obtain ⟨r, hr, E', x, _, rfl, hx, hM, _⟩ := he
  rw [hall r hr] at hx
  exact ⟨by rw [hx.bool_inv], hM.low⟩
end

end Go.Proofs.YtnidkdjapieinaaDoor.Ev
