/- The little machine's operations, one after the other: what each asks of the frame, and that it stands for the model's. No program is walked here. -/
import Derived.Test.YtnidkdjapieinaaDoorEvJ
noncomputable section
namespace Go.Proofs.YtnidkdjapieinaaDoor.Ev
open Go.RowKit
set_option linter.unusedSimpArgs false
set_option linter.unusedVariables false

section
variable {P : Program} {Φ : Facts}
variable {ν : Nat → Value} [FactsOk P ν Φ] {B : Zone} {w0 w : World} {E : Env} {M : Mem}

/- (Hot functions are typed by recursors: the kernel copies their bodies.) -/
def getV (t : T AV) : Nat → Option AV :=
  T.rec (motive := fun _ => Nat → Option AV) (fun _ => none)
    (fun v _ _ gl gr i => Nat.rec (motive := fun _ => Option AV) v (fun i _ => Bool.rec (motive := fun _ => Option AV) (gr (Nat.div i 2)) (gl (Nat.div i 2)) (Nat.beq (Nat.mod i 2) 0)) i) t
theorem getV_eq : getV = T.get := rfl
def opnd (t : T AV) (o : Operand) : Option AV :=
  Operand.rec (motive := fun _ => T AV → Option AV) (fun i t => getV t i) (fun v _ => constV v) (fun _ _ => none) (fun f _ => some (.fn f [] [])) o t
def opnds (t : T AV) : List Operand → Option (List AV)
  | [] => some []
  | o :: os => match opnd t o with
    | some v => match opnds t os with
      | some vs => some (v :: vs)
      | none => none
    | none => none
def oparts (t : T AV) : List (Nat × Operand) → Option (List (Nat × AV))
  | [] => some []
  | o :: os => match opnd t o.2 with
    | some v => match oparts t os with
      | some vs => some ((o.1, v) :: vs)
      | none => none
    | none => none
def oopt (t : T AV) : Option Operand → Option (Option AV)
  | none => some none
  | some o => match opnd t o with
    | some v => some (some v)
    | none => none
/-- The temporaries. -/
def TR (ν : Nat → Value) (E : Env) (t : T AV) (a : Act) : Prop := ∀ i v, t.get i = some v → ∃ x, a.tmps[i]? = some x ∧ V ν E v x
theorem TR.mono {E E' : Env} (h : E.le E') {t : T AV} {a : Act} (k : TR ν E t a) : TR ν E' t a := fun i v e => let ⟨x, h1, h2⟩ := k i v e; ⟨x, h1, V.mono h _ _ h2⟩
variable {t : T AV} {a : Act}
theorem opnd_ok (h : TR ν E t a) {o : Operand} {v : AV} (hv : opnd t o = some v) : V ν E v (a.eval o) := by
  cases o with
  | tmp i =>
    obtain ⟨x, h1, h2⟩ := h i v hv
    simp only [Act.eval, Array.getD_eq_getD_getElem?, h1, Option.getD_some]
    exact h2
  | const c => exact V.ofValue c v (by rw [← constV_eq]; exact hv)
  | func f => simp only [opnd, Option.some.injEq] at hv; subst hv; simp only [V, Act.eval]; exact ⟨#[], #[], rfl, by simp only [VL], by simp only [VL]⟩
  | global g => simp only [opnd] at hv; cases hv
theorem opnds_ok (h : TR ν E t a) : ∀ {os : List Operand} {vs : List AV}, opnds t os = some vs → VL ν E vs (os.map a.eval)
  | [], vs, hv => by simp only [opnds, Option.some.injEq] at hv; subst hv; simp only [VL, List.map_nil]
  | o :: os, vs, hv => by
    simp only [opnds] at hv
    split at hv
    case h_2 => cases hv
    rename_i v h1
    split at hv
    case h_2 => cases hv
    rename_i vs' h2
    simp only [Option.some.injEq] at hv; subst hv
    exact VL.cons_mk (opnd_ok h h1) (opnds_ok h h2)
theorem oparts_ok (h : TR ν E t a) : ∀ {os : List (Nat × Operand)} {vs : List (Nat × AV)}, oparts t os = some vs → VP ν E vs (os.map fun (i, x) => (i, a.eval x))
  | [], vs, hv => by simp only [oparts, Option.some.injEq] at hv; subst hv; simp only [VP, List.map_nil]
  | o :: os, vs, hv => by
    simp only [oparts] at hv
    split at hv
    case h_2 => cases hv
    rename_i v h1
    split at hv
    case h_2 => cases hv
    rename_i vs' h2
    simp only [Option.some.injEq] at hv; subst hv
    simp only [VP, List.map_cons]
    exact ⟨_, _, rfl, rfl, opnd_ok h h1, oparts_ok h h2⟩
theorem oopt_ok (h : TR ν E t a) {o : Option Operand} {v : Option AV} (hv : oopt t o = some v) : VO ν E v (o.map a.eval) := by
  cases o with
  | none => simp only [oopt, Option.some.injEq] at hv; subst hv; simp only [VO, Option.map_none]
  | some o =>
    simp only [oopt] at hv
    split at hv
    case h_2 => cases hv
    rename_i u hu
    simp only [Option.some.injEq] at hv; subst hv
    simp only [VO, Option.map_some]
    exact ⟨_, rfl, opnd_ok h hu⟩

variable (P) (Φ) in
def alenP (t : TypeId) (v : AV) : Option AV := alenOf P t v Mem.start
theorem alenP_ok {t ty : TypeId} {v : AV} {x : Value} (hv : V ν E v x) {r : AV} (hr : alenP P t v = some r) : ∃ y, (∀ w, (Builtin.len_ #[t] ty #[x]).run P w = .ok y w) ∧ V ν E r y := by
  unfold alenP alenOf at hr
  split at hr
  · rename_i hu
    split at hr
    case h_2 => cases hr
    have := hv.str_inv; subst this
    simp only [Option.some.injEq] at hr; subst hr
    exact ⟨_, fun w => by simp [Builtin.len_, run_underlying hu, goInt, size_bytes]; rfl, by simp only [V]; rfl⟩
  · rename_i n e hu
    simp only [Option.some.injEq] at hr; subst hr
    exact ⟨.int .i64 (Int.ofNat n), fun w => by simp [Builtin.len_, run_underlying hu, goInt], by simp only [V]⟩
  · rename_i a hu
    split at hr
    case h_2 => cases hr
    rename_i n e hu2
    simp only [Option.some.injEq] at hr; subst hr
    exact ⟨.int .i64 (Int.ofNat n), fun w => by simp [Builtin.len_, run_underlying hu, run_underlying hu2, goInt], by simp only [V]⟩
  · rename_i e hu
    split at hr
    case h_2 => cases hr
    rename_i n hn hstr
    have hstr' : ∀ q, v ≠ .str q := fun q e => by subst e; simp [isStr] at hstr
    obtain ⟨a, c, rfl⟩ := alen_slice hv hn hstr'
    simp only [Option.some.injEq] at hr; subst hr
    exact ⟨.int .i64 (Int.ofNat n), fun w => by simp [Builtin.len_, run_underlying hu, goInt], by simp only [V]⟩
  · rename_i k e hu
    split at hr
    · have := hv.nmap_inv; subst this
      simp only [Option.some.injEq] at hr; subst hr
      exact ⟨.int .i64 0, fun w => by simp [Builtin.len_, run_underlying hu, goInt], by simp only [V]⟩
    · rename_i b
      rw [Mem.get_start] at hr
      cases hr
    · cases hr
  · cases hr

def aminmaxP (mx : Bool) (l : List AV) : Option AV := aminmax mx l
theorem aminmax_ok {mx : Bool} {l : List AV} {xs : Array Value} (hl : VL ν E l xs.toList) {r : AV} (hr : aminmax mx l = some r) (ts : Array TypeId) (ty : TypeId) :
    ∃ y, (∀ w, (match mx with | true => Builtin.max_ ts ty xs | false => Builtin.min_ ts ty xs).run P w = .ok y w) ∧ V ν E r y := by
  unfold aminmax at hr
  split at hr
  case h_2 => cases hr
  rename_i k m k' n
  split at hr
  case h_2 => cases hr
  rename_i hk
  have hk := of_decide_eq_true hk
  subst hk
  simp only [VL] at hl
  obtain ⟨x, ys, hxs, hx, y, zs, rfl, hy, rfl⟩ := hl
  have := V.int_inv hx; subst this
  have := V.int_inv hy; subst this
  simp only [Option.some.injEq] at hr; subst hr
  cases mx
  · refine ⟨.int k (if n < m then n else m), fun w => by simp [Builtin.min_, hxs, Builtin.min2], ?_⟩
    simp only [V]
    congr 1
    rw [intLt_eq]
    by_cases h : n < m <;> simp [h]
  · refine ⟨.int k (if n > m then n else m), fun w => by simp [Builtin.max_, hxs, Builtin.max2], ?_⟩
    simp only [V]
    congr 1
    rw [intLt_eq]
    by_cases h : m < n <;> simp [h]

def nilFine : AV → Bool
  | .nptr => false
  | .niface => false
  | .nfn => false
  | .opq _ => false
  | _ => true
section
variable (P) (Φ)
/-- Operations that ask nothing of memory. -/
def apure0 (t : T AV) (op : Op) : Option AV :=
  match op with
  | .move x => opnd t x
  | .assign x => opnd t x
  | .pick c x y => match opnd t c with
    | some (.bool true) => opnd t x
    | some (.bool false) => opnd t y
    | _ => none
  | .nilCheck x => match opnd t x with
    | some v => match nilFine v with
      | true => some v
      | false => none
    | none => none
  | .binOp op ty x y _ => match opnd t x with
    | some u => match opnd t y with
      | some v => abinopF P Φ op ty x y u v
      | none => none
    | none => none
  | .unOp op _ x => match opnd t x with
    | some v => aunopF Φ op v
    | none => none
  | .convert s d x => match opnd t x with
    | some v => aconvertF P Φ s d v
    | none => none
  | .makeInterface ty x => match opnd t x with
    | some v => amakeIface P ty v
    | none => none
  | .makeFunc (.func f) first captured => match opnds t first.toList with
    | some l => match opnds t captured.toList with
      | some m => some (.fn f l m)
      | none => none
    | none => none
  | .slice ty x lo hi mx => match opnd t x with
    | some v => match oopt t lo with
      | some lo => match oopt t hi with
        | some hi => match oopt t mx with
          | some mx => aslice P ty v lo hi mx
          | none => none
        | none => none
      | none => none
    | none => none
  | .fieldAddr s x f => match opnd t x with
    | some v => afieldAddr P s v f
    | none => none
  | .field ty x f => match opnd t x with
    | some v => afield P ty v f
    | none => none
  | .indexAddr ty x i => match opnd t x with
    | some v => match opnd t i with
      | some i => aindexAddr P ty v i
      | none => none
    | none => none
  | .index ty x i => match opnd t x with
    | some v => match opnd t i with
      | some i => aindex P ty v i
      | none => none
    | none => none
  | .extract x i => match opnd t x with
    | some v => aextract v i
    | none => none
  | .typeAssert x _ asserted ok => match opnd t x with
    | some v => atypeAssert P v asserted ok
    | none => none
  | .build ty ps => match oparts t ps.toList with
    | some l => match abuild P ty l Mem.start with
      | some (v, _) => some v
      | none => none
    | none => none
  | .call c => match c.callee with
    | .builtin .len => match c.args.toList, c.argTypes.toList with
      | [x], [ty] => match opnd t x with
        | some v => alenP P ty v
        | none => none
      | _, _ => none
    | .builtin .cap => match c.args.toList, c.argTypes.toList with
      | [x], [ty] => match opnd t x with
        | some v => acapOf P ty v
        | none => none
      | _, _ => none
    | .builtin .min => match opnds t c.args.toList with
      | some l => aminmax false l
      | none => none
    | .builtin .max => match opnds t c.args.toList with
      | some l => aminmax true l
      | none => none
    | _ => none
  | _ => none
def p_move (x : Operand) (t : T AV) : Option AV := opnd t x
def p_assign (x : Operand) (t : T AV) : Option AV := opnd t x
def p_pick (c : Operand) (x : Operand) (y : Operand) (t : T AV) : Option AV := match opnd t c with
    | some (.bool true) => opnd t x
    | some (.bool false) => opnd t y
    | _ => none
def p_nilCheck (x : Operand) (t : T AV) : Option AV := match opnd t x with
    | some v => match nilFine v with
      | true => some v
      | false => none
    | none => none
def p_binOp (op : BinOp) (ty : TypeId) (x : Operand) (y : Operand) (w : TypeId) (t : T AV) : Option AV := match opnd t x with
    | some u => match opnd t y with
      | some v => abinopF P Φ op ty x y u v
      | none => none
    | none => none
def p_unOp (op : UnOp) (ty : TypeId) (x : Operand) (t : T AV) : Option AV := match opnd t x with
    | some v => aunopF Φ op v
    | none => none
def p_convert (s : TypeId) (d : TypeId) (x : Operand) (t : T AV) : Option AV := match opnd t x with
    | some v => aconvertF P Φ s d v
    | none => none
def p_makeInterface (ty : TypeId) (x : Operand) (t : T AV) : Option AV := match opnd t x with
    | some v => amakeIface P ty v
    | none => none
def p_makeFunc (g : Fn) (first : Array Operand) (captured : Array Operand) (t : T AV) : Option AV := match g with
  | .func f => match opnds t first.toList with
    | some l => match opnds t captured.toList with
      | some m => some (.fn f l m)
      | none => none
    | none => none
  | _ => none
def p_slice (ty : TypeId) (x : Operand) (lo : Option Operand) (hi : Option Operand) (mx : Option Operand) (t : T AV) : Option AV := match opnd t x with
    | some v => match oopt t lo with
      | some lo => match oopt t hi with
        | some hi => match oopt t mx with
          | some mx => aslice P ty v lo hi mx
          | none => none
        | none => none
      | none => none
    | none => none
def p_fieldAddr (s : TypeId) (x : Operand) (f : Nat) (t : T AV) : Option AV := match opnd t x with
    | some v => afieldAddr P s v f
    | none => none
def p_field (ty : TypeId) (x : Operand) (f : Nat) (t : T AV) : Option AV := match opnd t x with
    | some v => afield P ty v f
    | none => none
def p_indexAddr (ty : TypeId) (x : Operand) (i : Operand) (t : T AV) : Option AV := match opnd t x with
    | some v => match opnd t i with
      | some i => aindexAddr P ty v i
      | none => none
    | none => none
def p_index (ty : TypeId) (x : Operand) (i : Operand) (t : T AV) : Option AV := match opnd t x with
    | some v => match opnd t i with
      | some i => aindex P ty v i
      | none => none
    | none => none
def p_extract (x : Operand) (i : Nat) (t : T AV) : Option AV := match opnd t x with
    | some v => aextract v i
    | none => none
def p_typeAssert (x : Operand) (xt asserted : TypeId) (ok : Bool) (t : T AV) : Option AV := match opnd t x with
    | some v => atypeAssert P v asserted ok
    | none => none
def p_build (ty : TypeId) (ps : Array (Nat × Operand)) (t : T AV) : Option AV := match oparts t ps.toList with
    | some l => match abuild P ty l Mem.start with
      | some (v, _) => some v
      | none => none
    | none => none
def p_call (c : Call) (t : T AV) : Option AV := match c.callee with
    | .builtin .len => match c.args.toList, c.argTypes.toList with
      | [x], [ty] => match opnd t x with
        | some v => alenP P ty v
        | none => none
      | _, _ => none
    | .builtin .cap => match c.args.toList, c.argTypes.toList with
      | [x], [ty] => match opnd t x with
        | some v => acapOf P ty v
        | none => none
      | _, _ => none
    | .builtin .min => match opnds t c.args.toList with
      | some l => aminmax false l
      | none => none
    | .builtin .max => match opnds t c.args.toList with
      | some l => aminmax true l
      | none => none
    | _ => none
def apure (t : T AV) (o : Oper) : Option AV :=
  Op.rec (motive := fun _ => T AV → Option AV) (p_move) (p_assign) (p_pick) (fun _ _ => none) (fun _ _ _ => none) (p_build P) (fun _ _ _ _ => none) (fun _ _ _ _ _ => none) (fun _ _ _ => none) (fun _ _ _ _ => none) (fun _ _ => none) (fun _ _ => none) (p_nilCheck) (p_binOp P Φ) (p_unOp Φ) (p_convert P Φ) (fun _ _ _ => none) (p_makeInterface P) (p_makeFunc) (fun _ _ _ => none) (fun _ _ _ => none) (fun _ _ _ _ => none) (p_slice P) (p_fieldAddr P) (p_field P) (p_indexAddr P) (p_index P) (fun _ _ _ _ _ => none) (fun _ _ _ _ _ => none) (fun _ _ _ _ => none) (fun _ _ _ _ _ => none) (fun _ _ _ => none) (fun _ _ _ => none) (fun _ _ => none) (p_typeAssert P) (p_extract) (p_call P) (fun _ _ => none) (fun _ _ => none) (fun _ _ => none) (fun _ _ _ => none) (fun _ _ _ _ => none) (fun _ _ _ => none) o.op t
end
theorem apure_eq {o : Oper} : apure P Φ t o = apure0 P Φ t o.op := by
  obtain ⟨dst, op, type, pos, after, guard⟩ := o
  cases op with
  | makeFunc g first captured => cases g <;> rfl
  | _ => rfl
theorem abuild_pure {ty : TypeId} {ps : List (Nat × AV)} {qs : Array (Nat × Value)} (hp : VP ν E ps qs.toList) {M : Mem} {v : AV} {M' : Mem} (hr : abuild P ty ps M = some (v, M')) : ∃ x, (∀ w, (Instr.build ty qs).run P w = .ok x w) ∧ V ν E v x := by
  unfold abuild at hr
  split at hr
  · cases hr
  rename_i z hz
  have hzz : ∃ y, (∀ w, (zeroValue ty).run P w = .ok y w) ∧ ∀ E, V ν E z y := by
    unfold tzero at hz
    cases e : P.info? ty with
    | none => rw [e] at hz; cases hz
    | some i =>
      rw [e] at hz
      simp only at hz
      cases e2 : i.zero with
      | none => rw [e2] at hz; cases hz
      | some y =>
        rw [e2] at hz
        exact ⟨y, fun w => by simp [zeroValue, typeInfo, e, e2], fun E => V.ofValue y z hz⟩
  obtain ⟨y, hy, hV⟩ := hzz
  split at hr
  · rename_i fs hu
    split at hr
    · rename_i pl hpl
      split at hr
      · rename_i l hl
        simp only [Option.some.injEq, Prod.mk.injEq] at hr
        obtain ⟨rfl, rfl⟩ := hr
        obtain ⟨zs, hzs, hL⟩ := afill_ok _ ps qs.toList z.cells y.cells l hp (hV E).cells hl
        refine ⟨.agg zs, fun w => ?_, by simp only [V]; exact ⟨_, rfl, hL⟩⟩
        have hm : (fs.mapM (m := Sem) fun f => do pure (f.offset, ← sizeOf f.type)).run P w = .ok pl.toArray w := by
          rw [Array.mapM_eq_mapM_toList]
          simp [run_fieldPlaces fs.toList pl hpl]
        simp only [Instr.build, Sem.run_bind, hy, Result.andThen_ok, run_underlying hu]
        erw [hm]
        simp only [Result.andThen_ok]
        have : (fun (x : Nat) => pl.toArray[x]?) = fun (i : Nat) => pl[i]? := by funext i; simp
        rw [this, hzs]
        rfl
      · cases hr
    · cases hr
  · rename_i n e hu
    split at hr
    · rename_i s hs
      split at hr
      · rename_i l hl
        simp only [Option.some.injEq, Prod.mk.injEq] at hr
        obtain ⟨rfl, rfl⟩ := hr
        obtain ⟨zs, hzs, hL⟩ := afill_ok _ ps qs.toList z.cells y.cells l hp (hV E).cells hl
        refine ⟨.agg zs, fun w => ?_, by simp only [V]; exact ⟨_, rfl, hL⟩⟩
        simp only [Instr.build, Sem.run_bind, hy, Result.andThen_ok, run_underlying hu, run_sizeOf' hs]
        rw [hzs]
        rfl
      · cases hr
    · cases hr
  · cases hr
theorem run_value {s : Sem Value} {y : Value} {w w' : World} (h : s.run P w = .ok y w') : (do pure (.value (← s)) : Sem Next).run P w = .ok (.value y) w' := by
  simp [h]
theorem run_resolve_builtin {ρ : Operand → Value} {c : Call} {b : Builtin} (hc : c.callee = .builtin b) (type : TypeId) (w : World) : ∃ consts, (resolve ρ c type).run P w = .ok { target := .builtin b c.argTypes type consts, args := c.args.map ρ } w := by
  refine ⟨c.args.map fun | .const _ => true | _ => false, ?_⟩
  simp only [resolve, hc]
  rfl
theorem andThen_value {s : Sem Value} {y : Value} {w w' : World} (h : s.run P w = .ok y w') : ((s.run P w).andThen fun v w' => (pure (.value v) : Sem Next).run P w') = .ok (.value y) w' := by
  rw [h]; rfl

theorem apure_ok (h : TR ν E t a) {o : Oper} {v : AV} (hv : apure P Φ t o = some v) : ∃ x, (∀ w, (execOp a.eval o).run P w = .ok (.value x) w) ∧ V ν E v x := by
  obtain ⟨dst, op, type, pos, after, guard⟩ := o
  rw [apure_eq] at hv
  unfold apure0 at hv
  simp only at hv
  split at hv
  · rename_i x
    exact ⟨_, fun w => by simp only [execOp]; rfl, opnd_ok h hv⟩
  · rename_i x
    exact ⟨_, fun w => by simp only [execOp]; rfl, opnd_ok h hv⟩
  · rename_i c x y
    split at hv
    · rename_i hc
      have := (opnd_ok h hc).bool_inv
      exact ⟨_, fun w => by simp only [execOp, this]; rfl, opnd_ok h hv⟩
    · rename_i hc
      have := (opnd_ok h hc).bool_inv
      exact ⟨_, fun w => by simp only [execOp, this]; rfl, opnd_ok h hv⟩
    · cases hv
  · rename_i x
    split at hv
    case h_2 => cases hv
    rename_i u hu
    have hV := opnd_ok h hu
    split at hv
    case h_2 => cases hv
    rename_i hf
    simp only [Option.some.injEq] at hv; subst hv
    refine ⟨a.eval x, fun w => ?_, hV⟩
    simp only [execOp]
    cases u <;> simp only [nilFine] at hf <;> simp only [V] at hV
    all_goals first
      | (cases hf; done)
      | (rw [hV]; rfl)
      | (rw [hV.1]; rfl)
      | (obtain ⟨_, _, e⟩ := hV; rw [e]; rfl)
      | (obtain ⟨_, e, _⟩ := hV; rw [e]; rfl)
      | (obtain ⟨_, _, _, _, e, _⟩ := hV; rw [e]; rfl)
      | (obtain ⟨_, _, e, _⟩ := hV; rw [e]; rfl)
  · rename_i op ty x y yt
    split at hv
    case h_2 => cases hv
    rename_i u hu
    split at hv
    case h_2 => cases hv
    rename_i q hq
    obtain ⟨z, h1, h2⟩ := abinopF_ok (opnd_ok h hu) (opnd_ok h hq) hv
    exact ⟨z, fun w => by simp only [execOp]; exact run_value (h1 w), h2⟩
  · split at hv
    case h_2 => cases hv
    rename_i u hu
    obtain ⟨z, h1, h2⟩ := aunopF_ok (P := P) (Φ := Φ) (opnd_ok h hu) hv
    exact ⟨z, fun w => by simp only [execOp]; exact run_value (h1 w), h2⟩
  · split at hv
    case h_2 => cases hv
    rename_i u hu
    obtain ⟨z, h1, h2⟩ := aconvertF_ok (P := P) (Φ := Φ) (opnd_ok h hu) hv
    exact ⟨z, fun w => by simp only [execOp]; exact run_value (h1 w), h2⟩
  · split at hv
    case h_2 => cases hv
    rename_i u hu
    obtain ⟨z, h1, h2⟩ := amakeIface_ok (opnd_ok h hu) hv
    exact ⟨z, fun w => by simp only [execOp]; exact run_value (h1 w), h2⟩
  · split at hv
    case h_2 => cases hv
    rename_i l hl
    split at hv
    case h_2 => cases hv
    rename_i m hm
    simp only [Option.some.injEq] at hv; subst hv
    refine ⟨_, fun w => by simp only [execOp]; exact run_value (by simp only [Instr.makeFunc]; rfl), ?_⟩
    simp only [V]
    exact ⟨_, _, rfl, by rw [Array.toList_map]; exact opnds_ok h hl, by rw [Array.toList_map]; exact opnds_ok h hm⟩
  · split at hv
    case h_2 => cases hv
    rename_i u hu
    split at hv
    case h_2 => cases hv
    rename_i lo hlo
    split at hv
    case h_2 => cases hv
    rename_i hi hhi
    split at hv
    case h_2 => cases hv
    rename_i mx hmx
    obtain ⟨z, h1, h2⟩ := aslice_ok (opnd_ok h hu) (oopt_ok h hlo) (oopt_ok h hhi) (oopt_ok h hmx) hv
    exact ⟨z, fun w => by simp only [execOp]; exact run_value (h1 w), h2⟩
  · split at hv
    case h_2 => cases hv
    rename_i u hu
    obtain ⟨z, h1, h2⟩ := afieldAddr_ok (opnd_ok h hu) hv
    exact ⟨z, fun w => by simp only [execOp]; exact run_value (h1 w), h2⟩
  · split at hv
    case h_2 => cases hv
    rename_i u hu
    obtain ⟨z, h1, h2⟩ := afield_ok (opnd_ok h hu) hv
    exact ⟨z, fun w => by simp only [execOp]; exact run_value (h1 w), h2⟩
  · split at hv
    case h_2 => cases hv
    rename_i u hu
    split at hv
    case h_2 => cases hv
    rename_i q hq
    obtain ⟨z, h1, h2⟩ := aindexAddr_ok (opnd_ok h hu) (opnd_ok h hq) hv
    exact ⟨z, fun w => by simp only [execOp]; exact run_value (h1 w), h2⟩
  · split at hv
    case h_2 => cases hv
    rename_i u hu
    split at hv
    case h_2 => cases hv
    rename_i q hq
    obtain ⟨z, h1, h2⟩ := aindex_ok (opnd_ok h hu) (opnd_ok h hq) hv
    exact ⟨z, fun w => by simp only [execOp]; exact run_value (h1 w), h2⟩
  · split at hv
    case h_2 => cases hv
    rename_i u hu
    obtain ⟨z, h1, h2⟩ := aextract_ok (P := P) (opnd_ok h hu) hv
    exact ⟨z, fun w => by simp only [execOp]; exact run_value (h1 w), h2⟩
  · split at hv
    case h_2 => cases hv
    rename_i u hu
    obtain ⟨z, h1, h2⟩ := atypeAssert_ok (opnd_ok h hu) hv
    exact ⟨z, fun w => by simp only [execOp]; exact run_value (h1 w), h2⟩
  · split at hv
    case h_2 => cases hv
    rename_i l hl
    split at hv
    case h_2 => cases hv
    rename_i u M' hb
    simp only [Option.some.injEq] at hv; subst hv
    rename_i ps
    have hp := oparts_ok h hl
    rw [← Array.toList_map] at hp
    obtain ⟨z, h1, h2⟩ := abuild_pure hp hb
    exact ⟨z, fun w => by simp only [execOp]; exact run_value (h1 w), h2⟩
  · rename_i c
    split at hv
    · rename_i hc
      split at hv
      case h_2 => cases hv
      rename_i x ty hargs hts
      split at hv
      case h_2 => cases hv
      rename_i u hu
      obtain ⟨z, h1, h2⟩ := alenP_ok (ty := type) (opnd_ok h hu) hv
      refine ⟨z, fun w => ?_, h2⟩
      obtain ⟨cs, hr⟩ := run_resolve_builtin (P := P) (ρ := a.eval) hc type w
      have ha : c.args = #[x] := by rw [← Array.toArray_toList (xs := c.args), hargs]
      have ht : c.argTypes = #[ty] := by rw [← Array.toArray_toList (xs := c.argTypes), hts]
      simp only [execOp, Sem.run_bind, hr, Result.andThen_ok, invoke, builtin, ha, ht]
      exact andThen_value (by simpa using h1 w)
    · rename_i hc
      split at hv
      case h_2 => cases hv
      rename_i x ty hargs hts
      split at hv
      case h_2 => cases hv
      rename_i u hu
      obtain ⟨z, h1, h2⟩ := acapOf_ok (ty := type) (opnd_ok h hu) hv
      refine ⟨z, fun w => ?_, h2⟩
      obtain ⟨cs, hr⟩ := run_resolve_builtin (P := P) (ρ := a.eval) hc type w
      have ha : c.args = #[x] := by rw [← Array.toArray_toList (xs := c.args), hargs]
      have ht : c.argTypes = #[ty] := by rw [← Array.toArray_toList (xs := c.argTypes), hts]
      simp only [execOp, Sem.run_bind, hr, Result.andThen_ok, invoke, builtin, ha, ht]
      exact andThen_value (by simpa using h1 w)
    · rename_i hc
      split at hv
      case h_2 => cases hv
      rename_i l hl
      obtain ⟨z, h1, h2⟩ := aminmax_ok (P := P) (xs := c.args.map a.eval) (by rw [Array.toList_map]; exact opnds_ok h hl) hv c.argTypes type
      refine ⟨z, fun w => ?_, h2⟩
      obtain ⟨cs, hr⟩ := run_resolve_builtin (P := P) (ρ := a.eval) hc type w
      simp only [execOp, Sem.run_bind, hr, Result.andThen_ok, invoke, builtin]
      exact andThen_value (h1 w)
    · rename_i hc
      split at hv
      case h_2 => cases hv
      rename_i l hl
      obtain ⟨z, h1, h2⟩ := aminmax_ok (P := P) (xs := c.args.map a.eval) (by rw [Array.toList_map]; exact opnds_ok h hl) hv c.argTypes type
      refine ⟨z, fun w => ?_, h2⟩
      obtain ⟨cs, hr⟩ := run_resolve_builtin (P := P) (ρ := a.eval) hc type w
      simp only [execOp, Sem.run_bind, hr, Result.andThen_ok, invoke, builtin]
      exact andThen_value (h1 w)
    · cases hv
  · cases hv
end

end Go.Proofs.YtnidkdjapieinaaDoor.Ev
