/- The little machine's addresses, fields, indexes and slices. No program is walked here. -/
import Derived.Test.YtnidkdjapieinaaDoorEvC
noncomputable section
namespace Go.Proofs.YtnidkdjapieinaaDoor.Ev
open Go.RowKit
set_option linter.unusedSimpArgs false
set_option linter.unusedVariables false

section
variable {P : Program}
variable {ν : Nat → Value} {B : Zone} {w0 w : World} {E : Env} {M : Mem}

theorem V.int_inv {k : IntKind} {n : Int} {x : Value} (h : V ν E (.int k n) x) : x = .int k n := by simpa only [V] using h
theorem V.bool_inv {b : Bool} {x : Value} (h : V ν E (.bool b) x) : x = .bool b := by simpa only [V] using h
theorem V.str_inv {l : List Nat} {x : Value} (h : V ν E (.str l) x) : x = .string (bytes l) := by simp only [V] at h; exact h.1
theorem V.str_all {l : List Nat} {x : Value} (h : V ν E (.str l) x) : ∀ c ∈ l, c < 256 := by simp only [V] at h; exact h.2
theorem V.agg_inv {l : List AV} {x : Value} (h : V ν E (.agg l) x) : ∃ as, x = .agg as ∧ VL ν E l as.toList := by simpa only [V] using h
theorem V.tup_inv {l : List AV} {x : Value} (h : V ν E (.tup l) x) : ∃ as, x = .tuple as ∧ VL ν E l as.toList := by simpa only [V] using h
theorem V.slice_inv {b o n c : Nat} {x : Value} (h : V ν E (.slice b o n c) x) : ∃ p, E b = some p ∧ x = .slice (some ⟨p.1, p.2.1 + o, none⟩) n c := by simpa only [V] using h
theorem V.slic_inv {b o n z : Nat} {x : Value} (h : V ν E (.slic b o n z) x) : ∃ p c o', E b = some p ∧ x = .slice (some ⟨p.1, o', none⟩) n c ∧ n ≤ c ∧ o + c * z = p.2.2 ∧ 0 < z ∧ (0 < c → o' = p.2.1 + o) := by simpa only [V] using h
theorem V.map_inv {b : Nat} {x : Value} (h : V ν E (.map b) x) : ∃ p, E b = some p ∧ x = .map (some p.1) := by simpa only [V] using h

theorem size_bytes (l : List Nat) : (bytes l).size = l.length := by
  show (l.map UInt8.ofNat).toArray.size = l.length
  simp
theorem get_bytes (l : List Nat) (i : Nat) (h : i < l.length) : (bytes l)[i]? = some (UInt8.ofNat l[i]) := by
  have h2 : i < (bytes l).size := by rw [size_bytes]; exact h
  rw [getElem?_pos (bytes l) i h2]
  congr 1
  have h3 : i < (bytes l).data.size := h2
  have e : (bytes l)[i]'h2 = (bytes l).data[i]'h3 := rfl
  rw [e]
  simp only [bytes, List.getElem_toArray, List.getElem_map]

/-! ### fields -/
variable (P) in
def fieldAddrAt (s : TypeId) (f : Nat) (b o : Nat) : Option AV :=
  match P.underlying s with
  | some (.struct fs) => match fs.toList[f]? with
    | some fl => match tsize P fl.type with
      | some 0 => none
      | some _ => some (.ptr b (o + fl.offset))
      | none => none
    | none => none
  | _ => none
variable (P) in
def afieldAddr (s : TypeId) (v : AV) (f : Nat) : Option AV :=
  Option.rec (motive := fun _ => Option AV) none (fun p => fieldAddrAt P s f p.1 p.2) v.asPtr
variable (P) in
theorem afieldAddr_eq (s : TypeId) (v : AV) (f : Nat) : afieldAddr P s v f = (match v with
  | .ptr b o => match P.underlying s with
    | some (.struct fs) => match fs.toList[f]? with
      | some fl => match tsize P fl.type with
        | some 0 => none
        | some _ => some (.ptr b (o + fl.offset))
        | none => none
      | none => none
    | _ => none
  | _ => none) := by
  cases v <;> rfl
theorem afieldAddr_ok {s : TypeId} {v : AV} {x : Value} {f : Nat} (hv : V ν E v x) {r : AV} (hr : afieldAddr P s v f = some r) : ∃ y, (∀ w, (Instr.fieldAt s x f).run P w = .ok y w) ∧ V ν E r y := by
  rw [afieldAddr_eq] at hr
  split at hr
  case h_2 => cases hr
  rename_i b o
  obtain ⟨p, hp, rfl⟩ := hv.ptr_inv
  split at hr
  case h_2 => cases hr
  rename_i fs hu
  split at hr
  case h_2 => cases hr
  rename_i fl hf
  split at hr
  · cases hr
  case h_3 => cases hr
  rename_i n hne hs
  simp only [Option.some.injEq] at hr; subst hr
  have hf' : fs[f]? = some fl := by simpa using hf
  have hn : ¬ n = 0 := fun e => hne (by rw [e])
  refine ⟨.pointer (some ⟨p.1, p.2.1 + (o + fl.offset), none⟩), fun w => ?_, by simp only [V]; exact ⟨p, hp, rfl⟩⟩
  simp only [Instr.fieldAt, Sem.run_bind, run_underlying hu, Result.andThen_ok, hf', Instr.sureAddr, Sem.run_pure, fieldPlace, run_sizeOf' hs, hn, if_false, add_at]
  rw [Nat.add_assoc]

variable (P) in
def apart (t : TypeId) (l : List AV) (off : Nat) : Option AV :=
  match tagg P t with
  | some true => match tsize P t with
    | some n => some (.agg ((l.drop off).take n))
    | none => none
  | some false => l[off]?
  | none => none
theorem apart_ok {t : TypeId} {l : List AV} {as : Array Value} {off : Nat} (hl : VL ν E l as.toList) {r : AV} (hr : apart P t l off = some r) : ∃ y, (∀ w, (part t as off).run P w = .ok y w) ∧ V ν E r y := by
  unfold apart at hr
  split at hr
  · rename_i ha
    split at hr
    case h_2 => cases hr
    rename_i n hn
    simp only [Option.some.injEq] at hr; subst hr
    refine ⟨.agg (as.extract off (off + n)), fun w => ?_, ?_⟩
    · simp [part, run_isAgg' ha, run_sizeOf' hn]
    · simp only [V]
      refine ⟨_, rfl, ?_⟩
      have := (hl.drop off).take n
      rw [Array.toList_extract, List.extract_eq_take_drop]
      simpa using this
  · rename_i ha
    obtain ⟨y, hy, hV⟩ := hl.get hr
    refine ⟨y, fun w => ?_, hV⟩
    have hy' : as[off]? = some y := by simpa using hy
    simp [part, run_isAgg' ha, hy']
  · cases hr
variable (P) in
def afield (t : TypeId) (v : AV) (f : Nat) : Option AV :=
  match v with
  | .agg l => match P.underlying t with
    | some (.struct fs) => match fs.toList[f]? with
      | some fl => apart P fl.type l fl.offset
      | none => none
    | _ => none
  | _ => none
theorem afield_ok {t : TypeId} {v : AV} {x : Value} {f : Nat} (hv : V ν E v x) {r : AV} (hr : afield P t v f = some r) : ∃ y, (∀ w, (Instr.field t x f).run P w = .ok y w) ∧ V ν E r y := by
  unfold afield at hr
  split at hr
  case h_2 => cases hr
  rename_i l
  obtain ⟨as, rfl, hl⟩ := hv.agg_inv
  split at hr
  case h_2 => cases hr
  rename_i fs hu
  split at hr
  case h_2 => cases hr
  rename_i fl hf
  obtain ⟨y, hy, hV⟩ := apart_ok hl hr
  have hf' : fs[f]? = some fl := by simpa using hf
  exact ⟨y, fun w => by simp [Instr.field, run_underlying hu, hf', asAgg, hy], hV⟩

/-! ### indexes -/
variable (P) in
def aindexAddr (t : TypeId) (v ix : AV) : Option AV :=
  match ix with
  | .int _ (.ofNat i) => match v with
    | .slice b o n _ => match P.underlying t with
      | some (.slice e) => match tsize P e with
        | some s => match Nat.blt i n with
          | true => some (.ptr b (o + i * s))
          | false => none
        | none => none
      | _ => none
    | .slic b o n _ => match P.underlying t with
      | some (.slice e) => match tsize P e with
        | some s => match Nat.blt i n with
          | true => some (.ptr b (o + i * s))
          | false => none
        | none => none
      | _ => none
    | .ptr b o => match P.underlying t with
      | some (.array n e) => match tsize P e with
        | some s => match Nat.blt i n with
          | true => some (.ptr b (o + i * s))
          | false => none
        | none => none
      | _ => none
    | _ => none
  | _ => none
theorem aindexAddr_ok {t : TypeId} {v ix : AV} {x y : Value} (hv : V ν E v x) (hi : V ν E ix y) {r : AV} (hr : aindexAddr P t v ix = some r) : ∃ z, (∀ w, (Instr.indexAt t x y).run P w = .ok z w) ∧ V ν E r z := by
  unfold aindexAddr at hr
  split at hr
  case h_2 => cases hr
  rename_i k i
  have := hi.int_inv; subst this
  split at hr
  · rename_i b o n c
    obtain ⟨p, hp, rfl⟩ := hv.slice_inv
    split at hr
    case h_2 => cases hr
    rename_i e hu
    split at hr
    case h_2 => cases hr
    rename_i s hs
    split at hr
    case h_2 => cases hr
    rename_i hlt
    have hlt := blt_iff.1 hlt
    simp only [Option.some.injEq] at hr; subst hr
    refine ⟨.pointer (some ⟨p.1, p.2.1 + (o + i * s), none⟩), fun w => ?_, by simp only [V]; exact ⟨p, hp, rfl⟩⟩
    have h1 : (0 : Int) ≤ Int.ofNat i ∧ Int.ofNat i < (n : Int) := by simp; omega
    simp [Instr.indexAt, asIntOf, run_underlying hu, run_sizeOf' hs, hlt, add_at, Nat.add_assoc]
  · rename_i b o n z
    obtain ⟨p, c, o', hp, rfl, hnc, hcz, hz, ho⟩ := hv.slic_inv
    split at hr
    case h_2 => cases hr
    rename_i e hu
    split at hr
    case h_2 => cases hr
    rename_i s hs
    split at hr
    case h_2 => cases hr
    rename_i hlt
    have hlt := blt_iff.1 hlt
    simp only [Option.some.injEq] at hr; subst hr
    have := ho (by omega)
    subst this
    refine ⟨.pointer (some ⟨p.1, p.2.1 + (o + i * s), none⟩), fun w => ?_, by simp only [V]; exact ⟨p, hp, rfl⟩⟩
    simp [Instr.indexAt, asIntOf, run_underlying hu, run_sizeOf' hs, hlt, add_at, Nat.add_assoc]
  · rename_i b o
    obtain ⟨p, hp, rfl⟩ := hv.ptr_inv
    split at hr
    case h_2 => cases hr
    rename_i n e hu
    split at hr
    case h_2 => cases hr
    rename_i s hs
    split at hr
    case h_2 => cases hr
    rename_i hlt
    have hlt := blt_iff.1 hlt
    simp only [Option.some.injEq] at hr; subst hr
    refine ⟨.pointer (some ⟨p.1, p.2.1 + (o + i * s), none⟩), fun w => ?_, by simp only [V]; exact ⟨p, hp, rfl⟩⟩
    simp [Instr.indexAt, asIntOf, run_underlying hu, run_sizeOf' hs, hlt, add_at, Nat.add_assoc, Instr.sureAddr]
  · cases hr

variable (P) in
def aindex (t : TypeId) (v ix : AV) : Option AV :=
  match ix with
  | .int _ (.ofNat i) => match v with
    | .agg l => match P.underlying t with
      | some (.array n e) => match tsize P e with
        | some s => match Nat.blt i n with
          | true => apart P e l (i * s)
          | false => none
        | none => none
      | _ => none
    | .str l => match P.underlying t with
      | some .string => match l[i]? with
        | some c => some (.int .u8 (Int.ofNat (c % 256)))
        | none => none
      | _ => none
    | _ => none
  | _ => none
theorem aindex_ok {t : TypeId} {v ix : AV} {x y : Value} (hv : V ν E v x) (hi : V ν E ix y) {r : AV} (hr : aindex P t v ix = some r) : ∃ z, (∀ w, (Instr.index t x y).run P w = .ok z w) ∧ V ν E r z := by
  unfold aindex at hr
  split at hr
  case h_2 => cases hr
  rename_i k i
  have := hi.int_inv; subst this
  split at hr
  · rename_i l
    obtain ⟨as, rfl, hl⟩ := hv.agg_inv
    split at hr
    case h_2 => cases hr
    rename_i n e hu
    split at hr
    case h_2 => cases hr
    rename_i s hs
    split at hr
    case h_2 => cases hr
    rename_i hlt
    have hlt := blt_iff.1 hlt
    obtain ⟨z, hz, hV⟩ := apart_ok hl hr
    exact ⟨z, fun w => by simp [Instr.index, asIntOf, run_underlying hu, run_sizeOf' hs, hlt, hz], hV⟩
  · rename_i l
    have := hv.str_inv; subst this
    split at hr
    case h_2 => cases hr
    rename_i hu
    split at hr
    case h_2 => cases hr
    rename_i c hc
    simp only [Option.some.injEq] at hr; subst hr
    have hlt := (List.getElem?_eq_some_iff.1 hc).1
    have hg := get_bytes l i hlt
    rw [(List.getElem?_eq_some_iff.1 hc).2] at hg
    refine ⟨.int .u8 (Int.ofNat (c % 256)), fun w => ?_, by simp only [V]⟩
    simp [Instr.index, asIntOf, run_underlying hu, hg]
  · cases hr

def aextract (v : AV) (i : Nat) : Option AV :=
  match v with
  | .tup l => l[i]?
  | _ => none
theorem aextract_ok {v : AV} {x : Value} {i : Nat} (hv : V ν E v x) {r : AV} (hr : aextract v i = some r) : ∃ y, (∀ w, (Instr.extract x i).run P w = .ok y w) ∧ V ν E r y := by
  unfold aextract at hr
  split at hr
  case h_2 => cases hr
  rename_i l
  obtain ⟨as, rfl, hl⟩ := hv.tup_inv
  obtain ⟨y, hy, hV⟩ := hl.get hr
  have hy' : as[i]? = some y := by simpa using hy
  exact ⟨y, fun w => by simp [Instr.extract, hy'], hV⟩

/-! ### slices -/
def abound (x : Option AV) (d : Nat) : Option Nat :=
  match x with
  | none => some d
  | some (.int _ (.ofNat i)) => some i
  | _ => none
/-- The three bounds: low, high, max, where they are typed. -/
def VO (ν : Nat → Value) (E : Env) (a : Option AV) (x : Option Value) : Prop :=
  match a with
  | none => x = none
  | some v => ∃ y, x = some y ∧ V ν E v y
variable (P) in
def aslice (t : TypeId) (v : AV) (lo hi mx : Option AV) : Option AV :=
  match v with
  | .str l => match P.underlying t, mx, abound lo 0, abound hi l.length with
    | some .string, none, some a, some b => match Nat.ble a b, Nat.ble b l.length with
      | true, true => some (.str ((l.drop a).take (b - a)))
      | _, _ => none
    | _, _, _, _ => none
  | .nslice => match P.underlying t with
    | some (.slice e) => match tsize P e, mx, abound lo 0, abound hi 0 with
      | some _, none, some 0, some 0 => some .nslice
      | some _, some m, some 0, some 0 => match abound (some m) 0, hi with
        | some 0, some _ => some .nslice
        | _, _ => none
      | _, _, _, _ => none
    | _ => none
  | .emp => match P.underlying t with
    | some (.slice e) => match tsize P e, mx, abound lo 0, abound hi 0 with
      | some _, none, some 0, some 0 => some .emp
      | some _, some m, some 0, some 0 => match abound (some m) 0, hi with
        | some 0, some _ => some .emp
        | _, _ => none
      | _, _, _, _ => none
    | _ => none
  | .slice b o n c => match P.underlying t with
    | some (.slice e) => match tsize P e, abound lo 0, abound hi n, abound mx c with
      | some s, some x, some y, some m => match Nat.ble x y, Nat.ble y m, Nat.ble m c, mx, hi with
        | true, true, true, some _, none => none
        | true, true, true, _, _ => match Nat.beq m x with
          | true => some (.slice b o 0 0)
          | false => some (.slice b (o + x * s) (y - x) (m - x))
        | _, _, _, _, _ => none
      | _, _, _, _ => none
    | _ => none
  | .slic b o n z => match P.underlying t with
    | some (.slice e) => match tsize P e, abound lo 0, abound hi n, mx with
      | some s, some x, some y, none => match Nat.ble x y, Nat.ble y n, Nat.beq s z with
        | true, true, true => some (.slic b (o + x * s) (y - x) z)
        | _, _, _ => none
      | some s, some x, some y, some m => match abound (some m) 0, hi with
        | some m, some _ => match Nat.ble x y, Nat.ble y m, Nat.ble m n with
          | true, true, true => match Nat.beq m x with
            | true => some .emp
            | false => some (.slice b (o + x * s) (y - x) (m - x))
          | _, _, _ => none
        | _, _ => none
      | _, _, _, _ => none
    | _ => none
  | _ => none

theorem run_bound {x : AV} {y : Value} (h : V ν E x y) {i m : Nat} (hi : abound (some x) 0 = some i) (hm : i ≤ m) (code : BoundsCode) (w : World) : (Instr.sliceBound y m code).run P w = .ok i w := by
  unfold abound at hi
  split at hi
  · rename_i e; cases e
  · rename_i e
    simp at hi; subst hi
    simp at e; subst e
    have := h.int_inv; subst this
    simp [Instr.sliceBound, asIntOf, hm]
  · cases hi
theorem abound_some {x : AV} {d i : Nat} (h : abound (some x) d = some i) : abound (some x) 0 = some i := by
  unfold abound at h ⊢
  split at h
  · rename_i e; cases e
  · rename_i e; simp at e; subst e; exact h
  · cases h
theorem no_max {a b : Option AV} (h : ∀ (val : AV), a = some val → b = none → False) (k : a.isSome = true) : b.isSome = true := by
  cases a with
  | none => simp at k
  | some q =>
    cases b with
    | none => exact absurd rfl (fun e => h q rfl e)
    | some _ => rfl
theorem abound_any {x : AV} {d d' i : Nat} (h : abound (some x) d = some i) : abound (some x) d' = some i := by
  unfold abound at h ⊢
  split at h
  · rename_i e; cases e
  · rename_i e; simp at e; subst e; exact h
  · cases h
theorem run_bounds {lo hi mx : Option AV} {lo' hi' mx' : Option Value} (h1 : VO ν E lo lo') (h2 : VO ν E hi hi') (h3 : VO ν E mx mx') (isSlice : Bool) {n c a b m : Nat} (e1 : abound lo 0 = some a) (e2 : abound hi n = some b) (e3 : abound mx c = some m)
    (hab : a ≤ b) (hbm : b ≤ m) (hmc : m ≤ c) (hno : mx.isSome = true → hi.isSome = true) (w : World) : (Instr.sliceBounds isSlice n c lo' hi' mx').run P w = .ok (a, b, m) w := by
  cases mx with
  | none =>
    simp only [VO] at h3; subst h3
    simp only [abound, Option.some.injEq] at e3; subst e3
    cases hi with
    | none =>
      simp only [VO] at h2; subst h2
      simp only [abound, Option.some.injEq] at e2; subst e2
      cases lo with
      | none =>
        simp only [VO] at h1; subst h1
        simp only [abound, Option.some.injEq] at e1; subst e1
        simp [Instr.sliceBounds]
      | some u =>
        simp only [VO] at h1; obtain ⟨y, rfl, hy⟩ := h1
        simp [Instr.sliceBounds, run_bound hy e1 hab]
    | some v =>
      simp only [VO] at h2; obtain ⟨y2, rfl, hy2⟩ := h2
      have e2 := abound_some e2
      cases lo with
      | none =>
        simp only [VO] at h1; subst h1
        simp only [abound, Option.some.injEq] at e1; subst e1
        simp [Instr.sliceBounds, run_bound hy2 e2 hbm]
      | some u =>
        simp only [VO] at h1; obtain ⟨y, rfl, hy⟩ := h1
        simp [Instr.sliceBounds, run_bound hy e1 hab, run_bound hy2 e2 hbm]
  | some q =>
    simp only [VO] at h3; obtain ⟨y3, rfl, hy3⟩ := h3
    have e3 := abound_some e3
    cases hi with
    | none => simp at hno
    | some v =>
      simp only [VO] at h2; obtain ⟨y2, rfl, hy2⟩ := h2
      have e2 := abound_some e2
      cases lo with
      | none =>
        simp only [VO] at h1; subst h1
        simp only [abound, Option.some.injEq] at e1; subst e1
        simp [Instr.sliceBounds, run_bound hy2 e2 hbm, run_bound hy3 e3 hmc]
      | some u =>
        simp only [VO] at h1; obtain ⟨y, rfl, hy⟩ := h1
        simp [Instr.sliceBounds, run_bound hy e1 hab, run_bound hy2 e2 hbm, run_bound hy3 e3 hmc]
theorem extract_bytes (l : List Nat) (a b : Nat) : (bytes l).extract a b = bytes ((l.drop a).take (b - a)) := by
  apply ByteArray.ext
  simp only [ByteArray.data_extract, bytes]
  apply Array.ext'
  rw [Array.toList_extract, List.extract_eq_take_drop]
  simp [List.map_take, List.map_drop]
theorem sliceAt_slice {t e : TypeId} (hu : P.underlying t = some (.slice e)) (x : Value) (lo hi mx : Option Value) (w : World) : (Instr.sliceAt t x lo hi mx).run P w = (Instr.slice t x lo hi mx).run P w := by
  simp [Instr.sliceAt, run_underlying hu]
theorem aslice_ok {t : TypeId} {v : AV} {x : Value} {lo hi mx : Option AV} {lo' hi' mx' : Option Value} (hv : V ν E v x) (h1 : VO ν E lo lo') (h2 : VO ν E hi hi') (h3 : VO ν E mx mx') {r : AV} (hr : aslice P t v lo hi mx = some r) :
    ∃ y, (∀ w, (Instr.sliceAt t x lo' hi' mx').run P w = .ok y w) ∧ V ν E r y := by
  unfold aslice at hr
  split at hr
  · rename_i l
    have hall := hv.str_all
    have := hv.str_inv; subst this
    split at hr
    case h_2 => cases hr
    rename_i a b hu e1 e2
    split at hr
    case h_2 => cases hr
    rename_i c1 c2
    have c1 := Nat.le_of_ble_eq_true c1
    have c2 := Nat.le_of_ble_eq_true c2
    simp only [Option.some.injEq] at hr; subst hr
    have h3' := h3
    simp only [VO] at h3'; subst h3'
    refine ⟨.string (bytes ((l.drop a).take (b - a))), fun w => ?_, by simp only [V]; exact ⟨trivial, fun c hc => hall c (List.mem_of_mem_drop (List.mem_of_mem_take hc))⟩⟩
    have hb := run_bounds (P := P) (n := l.length) (c := l.length) h1 h2 h3 false e1 e2 rfl c1 c2 (Nat.le_refl _) (by simp) w
    simp only [Instr.sliceAt, Sem.run_bind, run_underlying hu, Result.andThen_ok, Instr.slice, Option.isSome_none, Bool.false_eq_true, if_false, size_bytes, hb, Sem.run_pure]
    rw [extract_bytes]
  · have hx : x = .slice none 0 0 := by simpa only [V] using hv
    subst hx
    split at hr
    case h_2 => cases hr
    rename_i e hu
    split at hr
    · rename_i s hs e1 e2
      simp only [Option.some.injEq] at hr; subst hr
      have h3' := h3
      simp only [VO] at h3'; subst h3'
      refine ⟨.slice none 0 0, fun w => ?_, by simp only [V]⟩
      have hb := run_bounds (P := P) (n := 0) (c := 0) h1 h2 h3 true e1 e2 rfl (Nat.le_refl _) (Nat.le_refl _) (Nat.le_refl _) (by simp) w
      rw [sliceAt_slice hu]
      simp [Instr.slice, run_underlying hu, hb, run_sizeOf' hs]
    · rename_i s m hs e1 e2
      split at hr
      case h_2 => cases hr
      rename_i hiv e3
      simp only [Option.some.injEq] at hr; subst hr
      refine ⟨.slice none 0 0, fun w => ?_, by simp only [V]⟩
      have hb := run_bounds (P := P) (n := 0) (c := 0) h1 h2 h3 true e1 e2 e3 (Nat.le_refl _) (Nat.le_refl _) (Nat.le_refl _) (by simp) w
      rw [sliceAt_slice hu]
      simp [Instr.slice, run_underlying hu, hb, run_sizeOf' hs]
    · cases hr
  · obtain ⟨ad, rfl, hsp⟩ : ∃ a, x = .slice (some a) 0 0 ∧ a.spot = none := by simpa only [V] using hv
    split at hr
    case h_2 => cases hr
    rename_i e hu
    split at hr
    · rename_i s hs e1 e2
      simp only [Option.some.injEq] at hr; subst hr
      have h3' := h3
      simp only [VO] at h3'; subst h3'
      refine ⟨.slice (some ad) 0 0, fun w => ?_, by simp only [V]; exact ⟨ad, rfl, hsp⟩⟩
      have hb := run_bounds (P := P) (n := 0) (c := 0) h1 h2 h3 true e1 e2 rfl (Nat.le_refl _) (Nat.le_refl _) (Nat.le_refl _) (by simp) w
      rw [sliceAt_slice hu]
      simp [Instr.slice, run_underlying hu, hb, run_sizeOf' hs]
    · rename_i s m hs e1 e2
      split at hr
      case h_2 => cases hr
      rename_i hiv e3
      simp only [Option.some.injEq] at hr; subst hr
      refine ⟨.slice (some ad) 0 0, fun w => ?_, by simp only [V]; exact ⟨ad, rfl, hsp⟩⟩
      have hb := run_bounds (P := P) (n := 0) (c := 0) h1 h2 h3 true e1 e2 e3 (Nat.le_refl _) (Nat.le_refl _) (Nat.le_refl _) (by simp) w
      rw [sliceAt_slice hu]
      simp [Instr.slice, run_underlying hu, hb, run_sizeOf' hs]
    · cases hr
  · rename_i b o n c
    obtain ⟨p, hp, rfl⟩ := hv.slice_inv
    split at hr
    case h_2 => cases hr
    rename_i e hu
    split at hr
    case h_2 => cases hr
    rename_i s a b' m hs e1 e2 e3
    have key : ∀ (hab : a ≤ b') (hbm : b' ≤ m) (hmc : m ≤ c) (hno : mx.isSome = true → hi.isSome = true), (match Nat.beq m a with | true => some (.slice b o 0 0) | false => some (AV.slice b (o + a * s) (b' - a) (m - a))) = some r → ∃ y, (∀ w, (Instr.sliceAt t (.slice (some ⟨p.1, p.2.1 + o, none⟩) n c) lo' hi' mx').run P w = .ok y w) ∧ V ν E r y := by
      intro hab hbm hmc hno hr
      split at hr
      · rename_i hz
        have hz := Nat.eq_of_beq_eq_true hz
        simp only [Option.some.injEq] at hr; subst hr
        refine ⟨.slice (some ⟨p.1, p.2.1 + o, none⟩) 0 0, fun w => ?_, by simp only [V]; exact ⟨p, hp, rfl⟩⟩
        have hb := run_bounds (P := P) (n := n) (c := c) h1 h2 h3 true e1 e2 e3 hab hbm hmc hno w
        rw [sliceAt_slice hu]
        have q1 : b' - a = 0 := by omega
        have q2 : m - a = 0 := by omega
        simp [Instr.slice, run_underlying hu, hb, run_sizeOf' hs, hz, q1]
      · rename_i hz
        have hz := Nat.ne_of_beq_eq_false hz
        simp only [Option.some.injEq] at hr; subst hr
        refine ⟨.slice (some ⟨p.1, p.2.1 + (o + a * s), none⟩) (b' - a) (m - a), fun w => ?_, by simp only [V]; exact ⟨p, hp, rfl⟩⟩
        have hb := run_bounds (P := P) (n := n) (c := c) h1 h2 h3 true e1 e2 e3 hab hbm hmc hno w
        rw [sliceAt_slice hu]
        simp [Instr.slice, run_underlying hu, hb, run_sizeOf' hs, hz, add_at, Nat.add_assoc]
    split at hr
    · cases hr
    · rename_i c1 c2 c3 hne
      exact key (Nat.le_of_ble_eq_true c1) (Nat.le_of_ble_eq_true c2) (Nat.le_of_ble_eq_true c3) (no_max hne) hr
    · cases hr
  · rename_i b o n z
    obtain ⟨p, c, o', hp, rfl, hnc, hcz, hzp, ho⟩ := hv.slic_inv
    split at hr
    case h_2 => cases hr
    rename_i e hu
    split at hr
    · rename_i s a b' hs e1 e2
      split at hr
      case h_2 => cases hr
      rename_i c1 c2 c3
      have c1 := Nat.le_of_ble_eq_true c1
      have c2 := Nat.le_of_ble_eq_true c2
      have c3 := Nat.eq_of_beq_eq_true c3
      simp only [Option.some.injEq] at hr; subst hr
      refine ⟨.slice (some (if c = a then ⟨p.1, o', none⟩ else ⟨p.1, o' + a * s, none⟩)) (b' - a) (c - a), fun w => ?_, ?_⟩
      · have hb := run_bounds (P := P) (n := n) (c := c) h1 h2 h3 true e1 e2 rfl c1 (by omega) (Nat.le_refl _) (by simp) w
        rw [sliceAt_slice hu]
        simp only [Instr.slice, Sem.run_bind, run_underlying hu, Result.andThen_ok, hb, run_sizeOf' hs, Sem.run_pure]
        by_cases hca : c = a <;> simp [hca, add_at]
      · simp only [V]
        refine ⟨p, c - a, if c = a then o' else o' + a * s, hp, by split <;> rfl, by omega, ?_, hzp, fun hpos => ?_⟩
        · subst c3
          have : (c - a) * s = c * s - a * s := Nat.sub_mul c a s
          have : a * s ≤ c * s := Nat.mul_le_mul_right s (by omega)
          omega
        · rw [if_neg (by omega), ho (by omega)]; omega
    · rename_i s a b' m hs e1 e2
      split at hr
      case h_2 => cases hr
      rename_i m' _ e3
      split at hr
      case h_2 => cases hr
      rename_i c1 c2 c3
      have c1 := Nat.le_of_ble_eq_true c1
      have c2 := Nat.le_of_ble_eq_true c2
      have c3 := Nat.le_of_ble_eq_true c3
      split at hr
      · rename_i hz
        have hz := Nat.eq_of_beq_eq_true hz
        simp only [Option.some.injEq] at hr; subst hr
        refine ⟨.slice (some ⟨p.1, o', none⟩) 0 0, fun w => ?_, by simp only [V]; exact ⟨_, rfl, rfl⟩⟩
        have hb := run_bounds (P := P) (n := n) (c := c) h1 h2 h3 true e1 e2 (abound_any e3) c1 c2 (by omega) (by simp) w
        rw [sliceAt_slice hu]
        have q1 : b' - a = 0 := by omega
        have q2 : m' - a = 0 := by omega
        simp [Instr.slice, run_underlying hu, hb, run_sizeOf' hs, hz, q1]
      · rename_i hz
        have hz := Nat.ne_of_beq_eq_false hz
        simp only [Option.some.injEq] at hr; subst hr
        have := ho (by omega)
        subst this
        refine ⟨.slice (some ⟨p.1, p.2.1 + (o + a * s), none⟩) (b' - a) (m' - a), fun w => ?_, by simp only [V]; exact ⟨p, hp, rfl⟩⟩
        have hb := run_bounds (P := P) (n := n) (c := c) h1 h2 h3 true e1 e2 (abound_any e3) c1 c2 (by omega) (by simp) w
        rw [sliceAt_slice hu]
        simp [Instr.slice, run_underlying hu, hb, run_sizeOf' hs, hz, add_at, Nat.add_assoc]
    · cases hr
  · cases hr
end

end Go.Proofs.YtnidkdjapieinaaDoor.Ev
