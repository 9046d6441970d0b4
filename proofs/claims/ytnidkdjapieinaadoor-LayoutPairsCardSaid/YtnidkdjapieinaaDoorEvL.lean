/- The little machine's operations on memory and its calls, together. No program is walked here. -/
import Derived.Test.YtnidkdjapieinaaDoorEvK
noncomputable section
namespace Go.Proofs.YtnidkdjapieinaaDoor.Ev
open Go.RowKit
set_option linter.unusedSimpArgs false
set_option linter.unusedVariables false

section
variable {P : Program} {Φ : Facts}
variable {ν : Nat → Value} [FactsOk P ν Φ] {B : Zone} {w0 w : World} {E : Env} {M : Mem}
variable {t : T AV} {a : Act}

/-- What comes of an operation: a value, nothing, a call. -/
inductive AN where
  | val (v : AV)
  | skip
  | call (f : FuncId) (args : List AV)
def NV (ν : Nat → Value) (E : Env) : AN → Next → Prop
  | .val v, n => ∃ x, n = .value x ∧ V ν E v x
  | .skip, n => n = .skip
  | .call f l, n => ∃ xs, n = .enter f xs ∧ VL ν E l xs.toList
def vals : List (AV × Mem) → List (AN × Mem)
  | [] => []
  | r :: rs => (.val r.1, r.2) :: vals rs
def one? : Option (AV × Mem) → Option (List (AN × Mem))
  | some r => some [(.val r.1, r.2)]
  | none => none
variable (P) in
/-- Which function a method is, where the receiver is what the interface holds. -/
def amethod (t : TypeId) (name : String) : Option FuncId := match P.info? t with
  | some i => match i.methods.toList.find? (fun m => m.name == name) with
    | some m => match m.path.toList, m.func, P.underlying t with
      | [], some (f, true), some (.pointer _) => some f
      | [], some (_, false), some (.pointer _) => none
      | [], some (f, false), some _ => some f
      | _, _, _ => none
    | none => none
  | none => none
theorem amethod_ok {t : TypeId} {name : String} {f : FuncId} (h : amethod P t name = some f) (y : Value) (w : World) : (method (P.types.size + Made.depth) t y name).run P w = .ok (f, y) w := by
  unfold amethod at h
  split at h
  case h_2 => cases h
  rename_i i hi
  split at h
  case h_2 => cases h
  rename_i m hm
  have hm' : i.methods.find? (fun m => m.name == name) = some m := by rw [← Array.find?_toList]; exact hm
  have hd : P.types.size + Made.depth = (P.types.size + Made.depth - 1) + 1 := by
    have : 0 < Made.depth := by decide
    omega
  rw [hd]
  split at h
  · rename_i g e hp hf hu
    simp only [Option.some.injEq] at h; subst h
    have hp' : m.path = #[] := by rw [← Array.toArray_toList (xs := m.path), hp]
    simp [method, typeInfo, hi, hm', hp, hp', follow, hf, receiverAt, run_underlying hu, Place.get]
  · cases h
  · rename_i g d hne hp hf hu
    simp only [Option.some.injEq] at h; subst h
    have hp' : m.path = #[] := by rw [← Array.toArray_toList (xs := m.path), hp]
    simp only [method, typeInfo, Sem.run_bind, run_program, Result.andThen_ok, hi, hm', Sem.run_pure, hp, follow, hf, receiverAt, run_underlying hu]
    cases d <;> first | (simp [Place.get]; done) | exact absurd rfl (hne _)
  · cases h
variable (P) in
/-- The same where the receiver is what the held pointer points to. -/
def amethodD (t : TypeId) (name : String) : Option (FuncId × TypeId) := match P.info? t with
  | some i => match i.methods.toList.find? (fun m => m.name == name) with
    | some m => match m.path.toList, m.func, P.underlying t with
      | [], some (f, false), some (.pointer e) => some (f, e)
      | _, _, _ => none
    | none => none
  | none => none
theorem amethodD_ok {t e : TypeId} {name : String} {f : FuncId} (h : amethodD P t name = some (f, e)) (b o : Nat) {x : Value} {w w' : World} (hl : (Instr.loadAt e (.pointer (some ⟨b, o, none⟩))).run P w = .ok x w') : (method (P.types.size + Made.depth) t (.pointer (some ⟨b, o, none⟩)) name).run P w = .ok (f, x) w' := by
  unfold amethodD at h
  split at h
  case h_2 => cases h
  rename_i i hi
  split at h
  case h_2 => cases h
  rename_i m hm
  have hm' : i.methods.find? (fun m => m.name == name) = some m := by rw [← Array.find?_toList]; exact hm
  have hd : P.types.size + Made.depth = (P.types.size + Made.depth - 1) + 1 := by
    have : 0 < Made.depth := by decide
    omega
  rw [hd]
  split at h
  case h_2 => cases h
  rename_i g e' hp hf hu
  simp only [Option.some.injEq, Prod.mk.injEq] at h
  obtain ⟨rfl, rfl⟩ := h
  have hp' : m.path = #[] := by rw [← Array.toArray_toList (xs := m.path), hp]
  have hl' : (loadVar e' ⟨b, o, none⟩).run P w = .ok x w' := by simpa [Instr.loadAt, Instr.sureAddr] using hl
  have hs : ∀ (ts : Array TypeId) (ty : TypeId) (n1 n2 : String), Builtin.ssaWrapNilChk_ ts ty #[.pointer (some ⟨b, o, none⟩), strVal n1, strVal n2] = pure (.pointer (some ⟨b, o, none⟩)) := fun _ _ _ _ => rfl
  simp [method, typeInfo, hi, hm', hp, hp', follow, hf, receiverAt, run_underlying hu, Place.get, hs, asAddr, hl']
section
variable (P) (Φ)
def acall (c : Call) (t : T AV) (M : Mem) : Option (List (AN × Mem)) :=
  match c.callee with
  | .value f => match opnd t f with
    | some (.fn g first captured) => match opnds t c.args.toList with
      | some l => match P.funcs.toList[g]? with
        | some fn => match fn.body with
          | some _ => match fn.name == "runtime.NumGoroutine" with
            | true => none
            | false => some [(.call g (first ++ l ++ captured), M)]
          | none => none
        | none => none
      | none => none
    | _ => none
  | .invoke r name => match opnd t r with
    | some (.iface ty v) => match amethod P ty name with
      | some g => match opnds t c.args.toList with
        | some l => match P.funcs.toList[g]? with
          | some fn => match fn.body with
            | some _ => match fn.name == "runtime.NumGoroutine" with
              | true => none
              | false => some [(.call g (v :: l), M)]
            | none => none
          | none => none
        | none => none
      | none => match amethodD P ty name with
        | some (g, e) => match aload P e v M with
          | some (u, M') => match opnds t c.args.toList with
            | some l => match P.funcs.toList[g]? with
              | some fn => match fn.body with
                | some _ => match fn.name == "runtime.NumGoroutine" with
                  | true => none
                  | false => some [(.call g (u :: l), M')]
                | none => none
              | none => none
            | none => none
          | none => none
        | none => none
    | _ => none
  | .builtin .append => match c.args.toList, c.argTypes.toList with
    | [x, y], [sT, xT] => match opnd t x with
      | some s => match opnd t y with
        | some u => match argOk P xT with
          | true => one? (aappend P sT xT s u M)
          | false => one? (aappendZ P sT xT s u M)
        | none => none
      | none => none
    | _, _ => none
  | .builtin .copy => match c.args.toList, c.argTypes.toList with
    | [x, y], [dT, _] => match opnd t x with
      | some d => match opnd t y with
        | some s => one? (acopy P dT d s M)
        | none => none
      | none => none
    | _, _ => none
  | .builtin .clear => match c.args.toList, c.argTypes.toList with
    | [x], [ty] => match opnd t x with
      | some v => one? (aclear P ty v M)
      | none => none
    | _, _ => none
  | .builtin .len => match c.args.toList, c.argTypes.toList with
    | [x], [ty] => match opnd t x with
      | some v => match alenOf P ty v M with
        | some r => some [(.val r, M)]
        | none => none
      | none => none
    | _, _ => none
  | _ => none
/-- Operations on memory, and calls. -/
def amem0 (t : T AV) (M : Mem) (op : Op) : Option (List (AN × Mem)) :=
  match op with
  | .alloc e => one? (aalloc P e M)
  | .box _ x => match opnd t x with
    | some v => one? (abox v M)
    | none => none
  | .buildSlice ty n ps => match oparts t ps.toList with
    | some l => one? (abuildSlice P ty n l M)
    | none => none
  | .load ty x => match opnd t x with
    | some v => one? (aload P ty v M)
    | none => none
  | .store ty x y => match opnd t x with
    | some v => match opnd t y with
      | some u => match astore P ty v u M with
        | some M' => some [(.skip, M')]
        | none => none
      | none => none
    | none => none
  | .makeMap ty r => match oopt t r with
    | some r => one? (amakeMap P ty r M)
    | none => none
  | .makeSlice ty x y => match opnd t x with
    | some u => match opnd t y with
      | some v => one? (amakeSlice P ty u v M)
      | none => none
    | none => none
  | .lookup ty x y ok => match opnd t x with
    | some m => match opnd t y with
      | some k => match alookup P ty m k ok M with
        | some r => some [(.val r, M)]
        | none => none
      | none => none
    | none => none
  | .mapUpdate ty x y z => match opnd t x with
    | some m => match opnd t y with
      | some k => match opnd t z with
        | some v => match amapUpdate P ty m k v M with
          | some M' => some [(.skip, M')]
          | none => none
        | none => none
      | none => none
    | none => none
  | .insert ty x y z => match opnd t x with
    | some m => match opnd t y with
      | some k => match opnd t z with
        | some v => match amapUpdate P ty m k v M with
          | some M' => some [(.skip, M')]
          | none => none
        | none => none
      | none => none
    | none => none
  | .range ty x => match opnd t x with
    | some v => one? (arange P ty v M)
    | none => none
  | .next x s => match opnd t x with
    | some v => match anext v s M with
      | some l => some (vals l)
      | none => none
    | none => none
  | .entry x => match opnd t x with
    | some v => match aentry v M with
      | some r => some [(.val r, M)]
      | none => none
    | none => none
  | .convert s d x => match opnd t x with
    | some v => one? (aconvMem P s d v M)
    | none => none
  | .call c => acall P c t M
  | _ => none
def m_alloc (e : TypeId) (t : T AV) (M : Mem) : Option (List (AN × Mem)) := one? (aalloc P e M)
def m_box (ty : TypeId) (x : Operand) (t : T AV) (M : Mem) : Option (List (AN × Mem)) := match opnd t x with
    | some v => one? (abox v M)
    | none => none
def m_buildSlice (ty : TypeId) (n : Nat) (ps : Array (Nat × Operand)) (t : T AV) (M : Mem) : Option (List (AN × Mem)) := match oparts t ps.toList with
    | some l => one? (abuildSlice P ty n l M)
    | none => none
def m_load (ty : TypeId) (x : Operand) (t : T AV) (M : Mem) : Option (List (AN × Mem)) := match opnd t x with
    | some v => one? (aload P ty v M)
    | none => none
def m_store (ty : TypeId) (x : Operand) (y : Operand) (t : T AV) (M : Mem) : Option (List (AN × Mem)) := match opnd t x with
    | some v => match opnd t y with
      | some u => match astore P ty v u M with
        | some M' => some [(.skip, M')]
        | none => none
      | none => none
    | none => none
def m_makeMap (ty : TypeId) (r : Option Operand) (t : T AV) (M : Mem) : Option (List (AN × Mem)) := match oopt t r with
    | some r => one? (amakeMap P ty r M)
    | none => none
def m_makeSlice (ty : TypeId) (x : Operand) (y : Operand) (t : T AV) (M : Mem) : Option (List (AN × Mem)) := match opnd t x with
    | some u => match opnd t y with
      | some v => one? (amakeSlice P ty u v M)
      | none => none
    | none => none
def m_lookup (ty : TypeId) (x : Operand) (y : Operand) (ok : Bool) (t : T AV) (M : Mem) : Option (List (AN × Mem)) := match opnd t x with
    | some m => match opnd t y with
      | some k => match alookup P ty m k ok M with
        | some r => some [(.val r, M)]
        | none => none
      | none => none
    | none => none
def m_mapUpdate (ty : TypeId) (x : Operand) (y : Operand) (z : Operand) (t : T AV) (M : Mem) : Option (List (AN × Mem)) := match opnd t x with
    | some m => match opnd t y with
      | some k => match opnd t z with
        | some v => match amapUpdate P ty m k v M with
          | some M' => some [(.skip, M')]
          | none => none
        | none => none
      | none => none
    | none => none
def m_insert (ty : TypeId) (x : Operand) (y : Operand) (z : Operand) (t : T AV) (M : Mem) : Option (List (AN × Mem)) := match opnd t x with
    | some m => match opnd t y with
      | some k => match opnd t z with
        | some v => match amapUpdate P ty m k v M with
          | some M' => some [(.skip, M')]
          | none => none
        | none => none
      | none => none
    | none => none
def m_range (ty : TypeId) (x : Operand) (t : T AV) (M : Mem) : Option (List (AN × Mem)) := match opnd t x with
    | some v => one? (arange P ty v M)
    | none => none
def m_next (x : Operand) (s : Bool) (t : T AV) (M : Mem) : Option (List (AN × Mem)) := match opnd t x with
    | some v => match anext v s M with
      | some l => some (vals l)
      | none => none
    | none => none
def m_entry (x : Operand) (t : T AV) (M : Mem) : Option (List (AN × Mem)) := match opnd t x with
    | some v => match aentry v M with
      | some r => some [(.val r, M)]
      | none => none
    | none => none
def m_convert (s d : TypeId) (x : Operand) (t : T AV) (M : Mem) : Option (List (AN × Mem)) := match opnd t x with
    | some v => one? (aconvMem P s d v M)
    | none => none
def m_call (c : Call) (t : T AV) (M : Mem) : Option (List (AN × Mem)) := acall P c t M
def amem (t : T AV) (M : Mem) (o : Oper) : Option (List (AN × Mem)) :=
  Op.rec (motive := fun _ => T AV → Mem → Option (List (AN × Mem))) (fun _ _ _ => none) (fun _ _ _ => none) (fun _ _ _ _ _ => none) (m_alloc P) (m_box) (fun _ _ _ _ => none) (m_buildSlice P) (m_insert P) (m_load P) (m_store P) (fun _ _ _ => none) (fun _ _ _ => none) (fun _ _ _ => none) (fun _ _ _ _ _ _ _ => none) (fun _ _ _ _ _ => none) (m_convert P) (fun _ _ _ _ => none) (fun _ _ _ _ => none) (fun _ _ _ _ _ => none) (m_makeMap P) (fun _ _ _ _ => none) (m_makeSlice P) (fun _ _ _ _ _ _ _ => none) (fun _ _ _ _ _ => none) (fun _ _ _ _ _ => none) (fun _ _ _ _ _ => none) (fun _ _ _ _ _ => none) (m_lookup P) (m_mapUpdate P) (fun _ _ _ _ _ => none) (fun _ _ _ _ _ _ => none) (m_range P) (m_next) (m_entry) (fun _ _ _ _ _ _ => none) (fun _ _ _ _ => none) (m_call P) (fun _ _ _ => none) (fun _ _ _ => none) (fun _ _ _ => none) (fun _ _ _ _ => none) (fun _ _ _ _ _ => none) (fun _ _ _ _ => none) o.op t M
end
theorem amem_eq {o : Oper} : amem P t M o = amem0 P t M o.op := by
  obtain ⟨dst, op, type, pos, after, guard⟩ := o
  cases op <;> rfl

def GoodN (P : Program) (ν : Nat → Value) (B : Zone) (w0 : World) (E : Env) (M : Mem) (w : World) (s : Sem Next) (l : List (AN × Mem)) : Prop :=
  ∃ r ∈ l, ∃ E' n w', Ext M E E' ∧ s.run P w = .ok n w' ∧ NV ν E' r.1 n ∧ MR ν B w0 E' r.2 w'
theorem GoodN.of {s : Sem Value} {r : Option (AV × Mem)} {l : List (AN × Mem)} (h : ∀ q, r = some q → Good P ν B w0 E M w s q) (hl : one? r = some l) : GoodN P ν B w0 E M w (do pure (.value (← s))) l := by
  cases r with
  | none => simp only [one?] at hl; cases hl
  | some q =>
    simp only [one?, Option.some.injEq] at hl; subst hl
    obtain ⟨E', x, w', h1, h2, h3, h4⟩ := h q rfl
    exact ⟨_, List.mem_singleton.2 rfl, E', .value x, w', h1, run_value h2, ⟨x, rfl, h3⟩, h4⟩
theorem GoodN.same (h : MR ν B w0 E M w) {s : Sem Value} {v : AV} {x : Value} (hs : s.run P w = .ok x w) (hv : V ν E v x) : GoodN P ν B w0 E M w (do pure (.value (← s))) [(.val v, M)] :=
  ⟨_, List.mem_singleton.2 rfl, E, .value x, w, Ext.refl M E, run_value hs, ⟨x, rfl, hv⟩, h⟩
theorem GoodN.skip {s : Sem Unit} {M' : Mem} (h : ∃ w', s.run P w = .ok () w' ∧ MR ν B w0 E M' w') : GoodN P ν B w0 E M w (do s; pure .skip) [(.skip, M')] := by
  obtain ⟨w', h1, h2⟩ := h
  exact ⟨_, List.mem_singleton.2 rfl, E, .skip, w', Ext.refl M E, by simp [h1], rfl, h2⟩
theorem GoodN.vals {s : Sem Value} {l : List (AV × Mem)} (h : GoodAny P ν B w0 E M w s l) : GoodN P ν B w0 E M w (do pure (.value (← s))) (vals l) := by
  obtain ⟨r, hr, E', x, w', h1, h2, h3, h4⟩ := h
  refine ⟨(.val r.1, r.2), ?_, E', .value x, w', h1, run_value h2, ⟨x, rfl, h3⟩, h4⟩
  clear h1 h2 h3 h4
  induction l with
  | nil => cases hr
  | cons q qs ih =>
    simp only [Ev.vals, List.mem_cons]
    rcases List.mem_cons.1 hr with rfl | hr
    · exact .inl rfl
    · exact .inr (ih hr)

theorem acall_ok (h : MR ν B w0 E M w) (ht : TR ν E t a) {c : Call} {l : List (AN × Mem)} (hl : acall P c t M = some l) (type : TypeId) :
    GoodN P ν B w0 E M w (do let d ← resolve a.eval c type; invoke d.target d.args) l := by
  have go : ∀ {s : Sem Next} {d : Deferred}, (resolve a.eval c type).run P w = .ok d w → invoke d.target d.args = s → GoodN P ν B w0 E M w s l → GoodN P ν B w0 E M w (do let d ← resolve a.eval c type; invoke d.target d.args) l := by
    intro s d h1 h2 ⟨r, hr, E', n, w', g1, g2, g3, g4⟩
    exact ⟨r, hr, E', n, w', g1, by simp only [Sem.run_bind, h1, Result.andThen_ok, h2, g2], g3, g4⟩
  unfold acall at hl
  split at hl
  · rename_i f hc
    split at hl
    case h_2 => cases hl
    rename_i g first captured hf
    obtain ⟨as, bs, hfe, hfa, hfb⟩ := (opnd_ok ht hf).fn_inv
    split at hl
    case h_2 => cases hl
    rename_i args hargs
    split at hl
    case h_2 => cases hl
    rename_i fn hfn
    split at hl
    case h_2 => cases hl
    rename_i body hbody
    split at hl
    · cases hl
    rename_i hname
    simp only [Option.some.injEq] at hl; subst hl
    have hfn' : P.funcs[g]? = some fn := by rw [← Array.getElem?_toList]; exact hfn
    refine ⟨_, List.mem_singleton.2 rfl, E, .enter g (as ++ c.args.map a.eval ++ bs), w, Ext.refl M E, ?_, ⟨_, rfl, ?_⟩, h⟩
    · simp only [resolve, hc, hfe, Deferred.ofValue, Sem.run_bind, Sem.run_pure, Result.andThen_ok, invoke, callFunc, run_program, hfn', hname, Bool.false_eq_true, if_false, hbody, Option.isNone_some]
    · simp only [Array.toList_append, Array.toList_map]
      exact (hfa.append (opnds_ok ht hargs)).append hfb
  · rename_i rv name hc
    split at hl
    case h_2 => cases hl
    rename_i ty v hr
    obtain ⟨y, hye, hy⟩ : ∃ y, a.eval rv = .iface ty y ∧ V ν E v y := by simpa only [V] using opnd_ok ht hr
    split at hl
    · rename_i g hg
      split at hl
      case h_2 => cases hl
      rename_i args hargs
      split at hl
      case h_2 => cases hl
      rename_i fn hfn
      split at hl
      case h_2 => cases hl
      rename_i body hbody
      split at hl
      · cases hl
      rename_i hname
      simp only [Option.some.injEq] at hl; subst hl
      have hfn' : P.funcs[g]? = some fn := by rw [← Array.getElem?_toList]; exact hfn
      refine ⟨_, List.mem_singleton.2 rfl, E, .enter g (#[y] ++ c.args.map a.eval), w, Ext.refl M E, ?_, ⟨_, rfl, ?_⟩, h⟩
      · have hm := amethod_ok hg y w
        have hex : (#[a.eval rv] ++ c.args.map a.eval).extract 1 (#[a.eval rv] ++ c.args.map a.eval).size = c.args.map a.eval := by
          apply Array.ext'
          simp [Array.toList_extract]
          exact List.take_of_length_le (by simp)
        simp only [resolve, hc, Sem.run_bind, Sem.run_pure, Result.andThen_ok, invoke, callMethod]
        simp only [hye] at hex ⊢
        rw [hex]
        simp only [Array.getElem?_append_left (show 0 < (#[Value.iface ty y] : Array Value).size by simp), List.getElem?_toArray, List.getElem?_cons_zero, Sem.run_bind, run_program, Result.andThen_ok, hm, callFunc, hfn', hname, Bool.false_eq_true, if_false, hbody, Option.isNone_some, Sem.run_pure]
      · simp only [Array.toList_append, Array.toList_map]
        exact VL.cons_mk hy (opnds_ok ht hargs)
    · split at hl
      case h_2 => cases hl
      rename_i g e hg
      split at hl
      case h_2 => cases hl
      rename_i u M' hu
      split at hl
      case h_2 => cases hl
      rename_i args hargs
      split at hl
      case h_2 => cases hl
      rename_i fn hfn
      split at hl
      case h_2 => cases hl
      rename_i body hbody
      split at hl
      · cases hl
      rename_i hname
      simp only [Option.some.injEq] at hl; subst hl
      have hfn' : P.funcs[g]? = some fn := by rw [← Array.getElem?_toList]; exact hfn
      obtain ⟨E', x, w', q1, q2, q3, q4⟩ := aload_ok h hy hu
      obtain ⟨bb, oo, rfl⟩ : ∃ b o, v = .ptr b o := by
        rw [aload_eq] at hu
        split at hu
        · exact ⟨_, _, rfl⟩
        · cases hu
      obtain ⟨p, hp, rfl⟩ := hy.ptr_inv
      refine ⟨_, List.mem_singleton.2 rfl, E', .enter g (#[x] ++ c.args.map a.eval), w', q1, ?_, ⟨_, rfl, ?_⟩, q4⟩
      · have hm := amethodD_ok hg _ _ q2
        have hex : (#[a.eval rv] ++ c.args.map a.eval).extract 1 (#[a.eval rv] ++ c.args.map a.eval).size = c.args.map a.eval := by
          apply Array.ext'
          simp [Array.toList_extract]
          exact List.take_of_length_le (by simp)
        simp only [resolve, hc, Sem.run_bind, Sem.run_pure, Result.andThen_ok, invoke, callMethod]
        simp only [hye] at hex ⊢
        rw [hex]
        simp only [Array.getElem?_append_left (show 0 < (#[Value.iface ty (Value.pointer (some ⟨p.1, p.2.1 + oo, none⟩))] : Array Value).size by simp), List.getElem?_toArray, List.getElem?_cons_zero, Sem.run_bind, run_program, Result.andThen_ok, hm, callFunc, hfn', hname, Bool.false_eq_true, if_false, hbody, Option.isNone_some, Sem.run_pure]
      · simp only [Array.toList_append, Array.toList_map]
        exact VL.cons_mk q3 (opnds_ok (ht.mono q1.1) hargs)
  · rename_i hc
    split at hl
    case h_2 => cases hl
    rename_i x y sT xT hargs hts
    split at hl
    case h_2 => cases hl
    rename_i s hs
    split at hl
    case h_2 => cases hl
    rename_i u hu
    obtain ⟨cs, hr⟩ := run_resolve_builtin (P := P) (ρ := a.eval) hc type w
    have ha : c.args.map a.eval = #[a.eval x, a.eval y] := by rw [← Array.toArray_toList (xs := c.args), hargs]; simp
    have hT : c.argTypes = #[sT, xT] := by rw [← Array.toArray_toList (xs := c.argTypes), hts]
    split at hl
    · refine go hr rfl ?_
      simp only [invoke, builtin, ha, hT]
      exact GoodN.of (fun q hq => aappend_ok h (opnd_ok ht hs) (opnd_ok ht hu) hq) hl
    · refine go hr rfl ?_
      simp only [invoke, builtin, ha, hT]
      exact GoodN.of (fun q hq => aappendZ_ok h (opnd_ok ht hs) (opnd_ok ht hu) hq) hl
  · rename_i hc
    split at hl
    case h_2 => cases hl
    rename_i x y dT sT hargs hts
    split at hl
    case h_2 => cases hl
    rename_i d hd
    split at hl
    case h_2 => cases hl
    rename_i s hs
    obtain ⟨cs, hr⟩ := run_resolve_builtin (P := P) (ρ := a.eval) hc type w
    have ha : c.args.map a.eval = #[a.eval x, a.eval y] := by rw [← Array.toArray_toList (xs := c.args), hargs]; simp
    have hT : c.argTypes = #[dT, sT] := by rw [← Array.toArray_toList (xs := c.argTypes), hts]
    refine go hr rfl ?_
    simp only [invoke, builtin, ha, hT]
    exact GoodN.of (fun q hq => acopy_ok h (opnd_ok ht hd) (opnd_ok ht hs) hq) hl
  · rename_i hc
    split at hl
    case h_2 => cases hl
    rename_i x ty hargs hts
    split at hl
    case h_2 => cases hl
    rename_i v hv
    obtain ⟨cs, hr⟩ := run_resolve_builtin (P := P) (ρ := a.eval) hc type w
    have ha : c.args.map a.eval = #[a.eval x] := by rw [← Array.toArray_toList (xs := c.args), hargs]; simp
    have hT : c.argTypes = #[ty] := by rw [← Array.toArray_toList (xs := c.argTypes), hts]
    refine go hr rfl ?_
    simp only [invoke, builtin, ha, hT]
    exact GoodN.of (fun q hq => aclear_ok h (opnd_ok ht hv) hq) hl
  · rename_i hc
    split at hl
    case h_2 => cases hl
    rename_i x ty hargs hts
    split at hl
    case h_2 => cases hl
    rename_i v hv
    split at hl
    case h_2 => cases hl
    rename_i r hr'
    simp only [Option.some.injEq] at hl; subst hl
    obtain ⟨cs, hr⟩ := run_resolve_builtin (P := P) (ρ := a.eval) hc type w
    have ha : c.args.map a.eval = #[a.eval x] := by rw [← Array.toArray_toList (xs := c.args), hargs]; simp
    have hT : c.argTypes = #[ty] := by rw [← Array.toArray_toList (xs := c.argTypes), hts]
    refine go hr rfl ?_
    simp only [invoke, builtin, ha, hT]
    obtain ⟨y, h1, h2⟩ := alenOf_ok (ty := type) h (opnd_ok ht hv) hr'
    exact GoodN.same h h1 h2
  · cases hl

theorem amem_ok (h : MR ν B w0 E M w) (ht : TR ν E t a) {o : Oper} {l : List (AN × Mem)} (hl : amem P t M o = some l) : GoodN P ν B w0 E M w (execOp a.eval o) l := by
  obtain ⟨dst, op, type, pos, after, guard⟩ := o
  rw [amem_eq] at hl
  unfold amem0 at hl
  simp only at hl
  split at hl
  · simp only [execOp]
    exact GoodN.of (fun q hq => aalloc_ok h hq) hl
  · split at hl
    case h_2 => cases hl
    rename_i v hv
    simp only [execOp]
    exact GoodN.of (fun q hq => abox_ok h (opnd_ok ht hv) hq) hl
  · split at hl
    case h_2 => cases hl
    rename_i ps l' hv
    have hp := oparts_ok ht hv
    rw [← Array.toList_map] at hp
    simp only [execOp]
    exact GoodN.of (fun q hq => abuildSlice_ok h hp hq) hl
  · split at hl
    case h_2 => cases hl
    rename_i v hv
    simp only [execOp]
    exact GoodN.of (fun q hq => aload_ok h (opnd_ok ht hv) hq) hl
  · split at hl
    case h_2 => cases hl
    rename_i v hv
    split at hl
    case h_2 => cases hl
    rename_i u hu
    split at hl
    case h_2 => cases hl
    rename_i M' hM
    simp only [Option.some.injEq] at hl; subst hl
    simp only [execOp]
    exact GoodN.skip (astore_ok h (opnd_ok ht hv) (opnd_ok ht hu) hM)
  · split at hl
    case h_2 => cases hl
    rename_i r hr
    simp only [execOp]
    exact GoodN.of (fun q hq => amakeMap_ok h (oopt_ok ht hr) hq) hl
  · split at hl
    case h_2 => cases hl
    rename_i u hu
    split at hl
    case h_2 => cases hl
    rename_i v hv
    simp only [execOp]
    exact GoodN.of (fun q hq => amakeSlice_ok h (opnd_ok ht hu) (opnd_ok ht hv) hq) hl
  · split at hl
    case h_2 => cases hl
    rename_i m hm
    split at hl
    case h_2 => cases hl
    rename_i k hk
    split at hl
    case h_2 => cases hl
    rename_i r hr
    simp only [Option.some.injEq] at hl; subst hl
    obtain ⟨y, h1, h2⟩ := alookup_ok h (opnd_ok ht hm) (opnd_ok ht hk) hr
    simp only [execOp]
    exact GoodN.same h h1 h2
  · split at hl
    case h_2 => cases hl
    rename_i m hm
    split at hl
    case h_2 => cases hl
    rename_i k hk
    split at hl
    case h_2 => cases hl
    rename_i v hv
    split at hl
    case h_2 => cases hl
    rename_i M' hM
    simp only [Option.some.injEq] at hl; subst hl
    simp only [execOp]
    exact GoodN.skip (amapUpdate_ok h (opnd_ok ht hm) (opnd_ok ht hk) (opnd_ok ht hv) hM)
  · split at hl
    case h_2 => cases hl
    rename_i m hm
    split at hl
    case h_2 => cases hl
    rename_i k hk
    split at hl
    case h_2 => cases hl
    rename_i v hv
    split at hl
    case h_2 => cases hl
    rename_i M' hM
    simp only [Option.some.injEq] at hl; subst hl
    simp only [execOp]
    exact GoodN.skip (amapUpdate_ok h (opnd_ok ht hm) (opnd_ok ht hk) (opnd_ok ht hv) hM)
  · split at hl
    case h_2 => cases hl
    rename_i v hv
    simp only [execOp]
    exact GoodN.of (fun q hq => arange_ok h (opnd_ok ht hv) hq) hl
  · split at hl
    case h_2 => cases hl
    rename_i v hv
    split at hl
    case h_2 => cases hl
    rename_i l' hl'
    simp only [Option.some.injEq] at hl; subst hl
    simp only [execOp]
    exact GoodN.vals (anext_ok h (opnd_ok ht hv) hl')
  · split at hl
    case h_2 => cases hl
    rename_i v hv
    split at hl
    case h_2 => cases hl
    rename_i r hr
    simp only [Option.some.injEq] at hl; subst hl
    obtain ⟨y, h1, h2⟩ := aentry_ok (P := P) h (opnd_ok ht hv) hr
    simp only [execOp]
    exact GoodN.same h h1 h2
  · split at hl
    case h_2 => cases hl
    rename_i v hv
    simp only [execOp]
    exact GoodN.of (fun q hq => aconvMem_ok h (opnd_ok ht hv) hq) hl
  · simp only [execOp]
    exact acall_ok h ht hl type
  · cases hl
end

end Go.Proofs.YtnidkdjapieinaaDoor.Ev
