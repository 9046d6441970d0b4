/- The little machine's operations on memory: load, store, new variables, addresses, slices, fields. Each stands for the model's own. No program is walked here. -/
import Derived.Test.YtnidkdjapieinaaDoorEvB
noncomputable section
namespace Go.Proofs.YtnidkdjapieinaaDoor.Ev
open Go.RowKit
set_option linter.unusedSimpArgs false
set_option linter.unusedVariables false

section
variable (P : Program)

def tagg (t : TypeId) : Option Bool := match P.underlying t with
  | some (.struct _) => some true
  | some (.array _ _) => some true
  | some _ => some false
  | none => none
def tsize (t : TypeId) : Option Nat := match P.info? t with
  | some i => some i.size
  | none => none
def tzero (t : TypeId) : Option AV := match P.info? t with
  | some i => match i.zero with
    | some z => AV.ofValue z
    | none => none
  | none => none

/-- What an operation must show of the model's own: it runs to its end, and its value and memory stand for the little machine's. -/
def Good (ν : Nat → Value) (B : Zone) (w0 : World) (E : Env) (M : Mem) (w : World) (s : Sem Value) (r : AV × Mem) : Prop :=
  ∃ E' x w', Ext M E E' ∧ s.run P w = .ok x w' ∧ V ν E' r.1 x ∧ MR ν B w0 E' r.2 w'

variable {P}
variable {ν : Nat → Value} {B : Zone} {w0 w : World} {E : Env} {M : Mem}

theorem Good.same (h : MR ν B w0 E M w) {s : Sem Value} {v : AV} {x : Value} (hs : s.run P w = .ok x w) (hv : V ν E v x) : Good P ν B w0 E M w s (v, M) :=
  ⟨E, x, w, Ext.refl M E, hs, hv, h⟩

theorem run_isAgg' {t : TypeId} {b : Bool} (h : tagg P t = some b) (w : World) : (isAgg t).run P w = .ok b w := by
  unfold tagg at h
  cases e : P.underlying t with
  | none => rw [e] at h; cases h
  | some d =>
    rw [e] at h
    simp only [isAgg, Sem.run_bind, run_underlying e, Result.andThen_ok]
    cases d <;> simp at h <;> subst h <;> rfl
theorem run_sizeOf' {t : TypeId} {n : Nat} (h : tsize P t = some n) (w : World) : (sizeOf t).run P w = .ok n w := by
  unfold tsize at h
  cases e : P.info? t with
  | none => rw [e] at h; cases h
  | some i => rw [e] at h; simp at h; subst h; simp [sizeOf, typeInfo, e]
theorem run_info {t : TypeId} {i : TypeInfo} (h : P.info? t = some i) (w : World) : (typeInfo t).run P w = .ok i w := by
  simp [typeInfo, h]
theorem run_zero {t : TypeId} {v : AV} (h : tzero P t = some v) (w : World) : ∃ z, (zeroValue t).run P w = .ok z w ∧ ∀ E, V ν E v z := by
  unfold tzero at h
  cases e : P.info? t with
  | none => rw [e] at h; cases h
  | some i =>
    rw [e] at h
    simp only at h
    cases e2 : i.zero with
    | none => rw [e2] at h; cases h
    | some z =>
      rw [e2] at h
      refine ⟨z, by simp [zeroValue, typeInfo, e, e2], fun E => V.ofValue z v h⟩

theorem V.ptr_inv {b o : Nat} {x : Value} (h : V ν E (.ptr b o) x) : ∃ p, E b = some p ∧ x = .pointer (some ⟨p.1, p.2.1 + o, none⟩) := by simpa only [V] using h

theorem run_load_cell {a : Addr} {x : Value} (h : w.cell? a = some x) : (load a).run P w = .ok x w := by
  rw [run_load, h]

/-! ### load -/
variable (P) in
def aloadAt (t : TypeId) (b o : Nat) (M : Mem) : Option (AV × Mem) :=
  match M.get b with
  | some (.cells K) => match tagg P t with
    | some true => match tsize P t with
      | some n => match K.getL n o with
        | some l => some (.agg l, M)
        | none => none
      | none => none
    | some false => match K.get o with
      | some v => some (v, M)
      | none => none
    | none => none
  | _ => none
variable (P) in
def aload (t : TypeId) (v : AV) (M : Mem) : Option (AV × Mem) :=
  Option.rec (motive := fun _ => Option (AV × Mem)) none (fun p => aloadAt P t p.1 p.2 M) v.asPtr
variable (P) in
theorem aload_eq (t : TypeId) (v : AV) (M : Mem) : aload P t v M = (match v with
  | .ptr b o => match M.get b with
    | some (.cells K) => match tagg P t with
      | some true => match tsize P t with
        | some n => match K.getL n o with
          | some l => some (.agg l, M)
          | none => none
        | none => none
      | some false => match K.get o with
        | some v => some (v, M)
        | none => none
      | none => none
    | _ => none
  | _ => none) := by
  cases v <;> rfl
theorem aload_ok (h : MR ν B w0 E M w) {t : TypeId} {v : AV} {x : Value} (hv : V ν E v x) {r : AV × Mem} (hr : aload P t v M = some r) : Good P ν B w0 E M w (Instr.loadAt t x) r := by
  rw [aload_eq] at hr
  split at hr
  case h_2 => cases hr
  rename_i b o
  split at hr
  case h_2 => cases hr
  rename_i K hK
  obtain ⟨p, hp, rfl⟩ := hv.ptr_inv
  have hrun : ∀ s : Sem Value, (Instr.loadAt t (.pointer (some ⟨p.1, p.2.1 + o, none⟩))).run P w = (loadVar t ⟨p.1, p.2.1 + o, none⟩).run P w := by
    intro _; simp [Instr.loadAt, Instr.sureAddr]
  split at hr
  · rename_i ha
    split at hr
    case h_2 => cases hr
    rename_i n hn
    split at hr
    case h_2 => cases hr
    rename_i l hl
    simp only [Option.some.injEq] at hr; subst hr
    obtain ⟨xs, hx, hrun2⟩ := h.loadCells P hK hp hl
    refine Good.same h (x := .agg xs.toArray) ?_ (by simp only [V]; exact ⟨_, rfl, hx⟩)
    rw [hrun (pure undef)]
    simp [loadVar, run_isAgg' ha, run_sizeOf' hn, hrun2]
  · rename_i ha
    split at hr
    case h_2 => cases hr
    rename_i u hu
    simp only [Option.some.injEq] at hr; subst hr
    obtain ⟨x, hx, hV, _⟩ := h.cell hK hp hu
    refine Good.same h (x := x) ?_ hV
    rw [hrun (pure undef)]
    simp only [loadVar, Sem.run_bind, run_isAgg' ha, Result.andThen_ok, Bool.false_eq_true, if_false]
    exact run_load_cell hx
  · cases hr

/-! ### store -/
variable (P) in
def astore (t : TypeId) (v u : AV) (M : Mem) : Option Mem :=
  match v with
  | .ptr b o => match M.get b with
    | some (.cells K) => match tsize P t with
      | some n => match Nat.beq u.cells.length n, Nat.ble (o + u.cells.length) K.m, oneAll u.cells with
        | true, true, true => some (M.put b (.cells (Blk.setL u.cells o K)))
        | _, _, _ => none
      | none => none
    | _ => none
  | _ => none
theorem OR.m_le {K : Blk} {p : Nat × Nat × Nat} (h : OR ν E (.cells K) p w) : K.m ≤ p.2.2 := by
  obtain ⟨cs, t, fr, g1, g2, g3, g4, g5⟩ := h
  exact g3
theorem MR.m_le (h : MR ν B w0 E M w) {b : Nat} {K : Blk} (hb : M.get b = some (.cells K)) {p : Nat × Nat × Nat} (hp : E b = some p) : K.m ≤ p.2.2 := by
  obtain ⟨q, e, r⟩ := h.obj b _ hb
  rw [hp] at e
  simp at e; subst e
  exact r.m_le
theorem astore_ok (h : MR ν B w0 E M w) {t : TypeId} {v u : AV} {x y : Value} (hv : V ν E v x) (hu : V ν E u y) {M' : Mem} (hr : astore P t v u M = some M') :
    ∃ w', (Instr.storeAt t x y).run P w = .ok () w' ∧ MR ν B w0 E M' w' := by
  unfold astore at hr
  split at hr
  case h_2 => cases hr
  rename_i b o
  split at hr
  case h_2 => cases hr
  rename_i K hK
  obtain ⟨p, hp, rfl⟩ := hv.ptr_inv
  split at hr
  case h_2 => cases hr
  rename_i n hn
  split at hr
  case h_2 => cases hr
  rename_i h1 h2 h3
  simp only [Option.some.injEq] at hr; subst hr
  have hc := hu.cells
  have hlen := hc.length
  have h1 := Nat.eq_of_beq_eq_true h1
  have h2 := Nat.le_of_ble_eq_true h2
  have hm := h.m_le hK hp
  obtain ⟨w', hrun, hM⟩ := MR.storeCells P hp o u.cells y.cells.toList 0 M w K h hK (by omega) hc h3
  refine ⟨w', ?_, hM⟩
  have hsz : y.cells.size = n := by rw [← h1, ← hlen]; simp
  simp only [Instr.storeAt, Instr.sureAddr, Sem.run_bind, Sem.run_pure, Result.andThen_ok, storeVar, run_sizeOf' hn, hsz, ne_eq, not_true_eq_false, if_false]
  exact hrun

/-! ### new variables -/
def anew (l : List AV) (M : Mem) : AV × Mem := (.ptr M.k 0, M.new (.cells (Blk.ofList l)))
theorem newRow_ok (h : MR ν B w0 E M w) {l : List AV} {xs : List Value} (hl : VL ν E l xs) (t : TypeId) :
    ∃ E' a, Ext M E E' ∧ (newRow t xs.toArray).run P w = .ok a (w.alloc (.cells xs.toArray t)) ∧ a = ⟨w.heap.size, 0, none⟩ ∧ E' M.k = some (w.heap.size, 0, xs.length) ∧ MR ν B w0 E' (M.new (.cells (Blk.ofList l))) (w.alloc (.cells xs.toArray t)) :=
  ⟨_, _, h.ext_put _, by simp [newRow], rfl, Env.put_self _ _ _, h.newList hl t⟩
variable (P) in
def aalloc (t : TypeId) (M : Mem) : Option (AV × Mem) := match tzero P t with
  | some z => some (anew z.cells M)
  | none => none
theorem aalloc_ok (h : MR ν B w0 E M w) {t : TypeId} {r : AV × Mem} (hr : aalloc P t M = some r) : Good P ν B w0 E M w (Instr.alloc t true (.tuple #[])) r := by
  unfold aalloc at hr
  split at hr
  case h_2 => cases hr
  rename_i z hz
  simp only [Option.some.injEq] at hr; subst hr
  obtain ⟨y, hy, hV⟩ := run_zero (ν := ν) hz w
  have hc := (hV E).cells
  obtain ⟨E', a, hE, hrun, rfl, hn, hM⟩ := newRow_ok (P := P) h hc t
  refine ⟨E', .pointer (some ⟨w.heap.size, 0, none⟩), _, hE, ?_, ?_, hM⟩
  · simp only [Instr.alloc, Sem.run_bind, hy, Result.andThen_ok, newVar]
    rw [show newRow t y.cells = newRow t y.cells.toList.toArray from by simp, hrun]
    rfl
  · simp only [anew, V]; exact ⟨_, hn, rfl⟩
def abox (v : AV) (M : Mem) : Option (AV × Mem) := some (anew v.cells M)
theorem abox_ok (h : MR ν B w0 E M w) {t : TypeId} {v : AV} {x : Value} (hv : V ν E v x) {r : AV × Mem} (hr : abox v M = some r) : Good P ν B w0 E M w (Instr.box t x) r := by
  simp only [abox, Option.some.injEq] at hr; subst hr
  obtain ⟨E', a, hE, hrun, rfl, hn, hM⟩ := newRow_ok (P := P) h hv.cells t
  refine ⟨E', .pointer (some ⟨w.heap.size, 0, none⟩), _, hE, ?_, ?_, hM⟩
  · simp only [Instr.box, Sem.run_bind, newVar]
    rw [show newRow t x.cells = newRow t x.cells.toList.toArray from by simp, hrun]
    rfl
  · simp only [anew, V]; exact ⟨_, hn, rfl⟩

/-! ### literals -/
def setSeg : List AV → Nat → List AV → List AV
  | [], _, l => l
  | v :: vs, i, l => setSeg vs (i + 1) (l.set i v)
def afill (place : Nat → Option (Nat × Nat)) (cells : List AV) : List (Nat × AV) → Option (List AV)
  | [] => some cells
  | (i, v) :: rest => match place i with
    | none => none
    | some (off, size) => match Nat.beq v.cells.length size, Nat.ble (off + v.cells.length) cells.length with
      | true, true => afill place (setSeg v.cells off cells) rest
      | _, _ => none
/-- Parts of a literal. -/
def VP (ν : Nat → Value) (E : Env) : List (Nat × AV) → List (Nat × Value) → Prop
  | [], ys => ys = []
  | a :: as, ys => ∃ y ys', ys = y :: ys' ∧ a.1 = y.1 ∧ V ν E a.2 y.2 ∧ VP ν E as ys'
theorem setSeg_ok : ∀ (vs : List AV) (xs : List Value) (i : Nat) (l : List AV) (ys : Array Value), VL ν E vs xs → VL ν E l ys.toList →
    VL ν E (setSeg vs i l) ((xs.zipIdx i).foldl (fun (cs : Array Value) (c : Value × Nat) => cs.setIfInBounds c.2 c.1) ys).toList
  | [], xs, i, l, ys, h1, h2 => by simp only [VL] at h1; subst h1; simpa [setSeg] using h2
  | v :: vs, xs, i, l, ys, h1, h2 => by
    simp only [VL] at h1
    obtain ⟨y, xs', rfl, hy, hys⟩ := h1
    simp only [setSeg, List.zipIdx_cons, List.foldl_cons]
    exact setSeg_ok vs xs' (i + 1) (l.set i v) _ hys (by simpa using h2.set i hy)
theorem foldl_off (xs : Array Value) (off : Nat) (ys : Array Value) :
    xs.zipIdx.foldl (fun (cs : Array Value) (c : Value × Nat) => cs.setIfInBounds (off + c.2) c.1) ys = (xs.toList.zipIdx off).foldl (fun (cs : Array Value) (c : Value × Nat) => cs.setIfInBounds c.2 c.1) ys := by
  rw [← Array.foldl_toList]
  simp only [Array.toList_zipIdx]
  generalize xs.toList = l
  have key : ∀ (l : List Value) (k : Nat) (ys : Array Value), (l.zipIdx k).foldl (fun (cs : Array Value) (c : Value × Nat) => cs.setIfInBounds (off + c.2) c.1) ys = (l.zipIdx (off + k)).foldl (fun (cs : Array Value) (c : Value × Nat) => cs.setIfInBounds c.2 c.1) ys := by
    intro l
    induction l with
    | nil => intro k ys; rfl
    | cons x l ih => intro k ys; simp only [List.zipIdx_cons, List.foldl_cons]; rw [ih]; rfl
  simpa using key l 0 ys
theorem afill_ok (place : Nat → Option (Nat × Nat)) : ∀ (ps : List (Nat × AV)) (qs : List (Nat × Value)) (l : List AV) (ys : Array Value) (l' : List AV), VP ν E ps qs → VL ν E l ys.toList → afill place l ps = some l' →
    ∃ zs, Instr.fill place ys qs = some zs ∧ VL ν E l' zs.toList
  | [], qs, l, ys, l', hp, hl, hr => by
    simp only [VP] at hp; subst hp
    simp only [afill, Option.some.injEq] at hr; subst hr
    exact ⟨ys, rfl, hl⟩
  | (i, v) :: ps, qs, l, ys, l', hp, hl, hr => by
    simp only [VP] at hp
    obtain ⟨⟨j, x⟩, qs', rfl, hi, hx, hp'⟩ := hp
    simp only at hi hx
    subst hi
    simp only [afill] at hr
    split at hr
    · cases hr
    · rename_i off size hpl
      split at hr
      · rename_i h1 h2
        have h1 := Nat.eq_of_beq_eq_true h1
        have h2 := Nat.le_of_ble_eq_true h2
        have hc := hx.cells
        have hlen := hc.length
        have hl2 := hl.length
        simp only [Array.length_toList] at hlen hl2
        have hs := setSeg_ok v.cells x.cells.toList off l ys hc hl
        obtain ⟨zs, hz, hV⟩ := afill_ok place ps qs' _ _ l' hp' hs hr
        refine ⟨zs, ?_, hV⟩
        simp only [Instr.fill, hpl]
        rw [if_neg (by simp only [Bool.or_eq_true, decide_eq_true_eq, ne_eq, not_or]; simp; omega)]
        exact Eq.trans (congrArg (fun q => Instr.fill place q qs') (foldl_off x.cells off ys)) hz
      · cases hr

variable (P) in
def fieldPlaces : List Field → Option (List (Nat × Nat))
  | [] => some []
  | f :: fs => match tsize P f.type, fieldPlaces fs with
    | some n, some l => some ((f.offset, n) :: l)
    | _, _ => none
theorem run_fieldPlaces : ∀ (fs : List Field) (l : List (Nat × Nat)), fieldPlaces P fs = some l → ∀ w, (fs.mapM (m := Sem) fun f => Functor.map (Prod.mk f.offset) (sizeOf f.type)).run P w = .ok l w
  | [], l, h, w => by simp only [fieldPlaces, Option.some.injEq] at h; subst h; rfl
  | f :: fs, l, h, w => by
    simp only [fieldPlaces] at h
    split at h
    · rename_i n l' hn hl
      simp only [Option.some.injEq] at h; subst h
      simp [List.mapM_cons, run_sizeOf' hn, run_fieldPlaces fs l' hl]
    · cases h
variable (P) in
def abuild (t : TypeId) (parts : List (Nat × AV)) (M : Mem) : Option (AV × Mem) :=
  match tzero P t with
  | none => none
  | some z => match P.underlying t with
    | some (.struct fs) => match fieldPlaces P fs.toList with
      | some pl => match afill (fun i => pl[i]?) z.cells parts with
        | some l => some (.agg l, M)
        | none => none
      | none => none
    | some (.array _ e) => match tsize P e with
      | some s => match afill (fun i => some (i * s, s)) z.cells parts with
        | some l => some (.agg l, M)
        | none => none
      | none => none
    | _ => none
theorem abuild_ok (h : MR ν B w0 E M w) {t : TypeId} {ps : List (Nat × AV)} {qs : Array (Nat × Value)} (hp : VP ν E ps qs.toList) {r : AV × Mem} (hr : abuild P t ps M = some r) : Good P ν B w0 E M w (Instr.build t qs) r := by
  unfold abuild at hr
  split at hr
  · cases hr
  rename_i z hz
  obtain ⟨y, hy, hV⟩ := run_zero (ν := ν) hz w
  split at hr
  · rename_i fs hu
    split at hr
    · rename_i pl hpl
      split at hr
      · rename_i l hl
        simp only [Option.some.injEq] at hr; subst hr
        obtain ⟨zs, hzs, hL⟩ := afill_ok _ ps qs.toList z.cells y.cells l hp (hV E).cells hl
        refine Good.same h (x := .agg zs) ?_ (by simp only [V]; exact ⟨_, rfl, hL⟩)
        have hm : (fs.mapM (m := Sem) fun f => do pure (f.offset, ← sizeOf f.type)).run P w = .ok pl.toArray w := by
          rw [Array.mapM_eq_mapM_toList]
          simp [run_fieldPlaces fs.toList pl hpl]
        simp only [Instr.build, Sem.run_bind, hy, Result.andThen_ok, run_underlying hu]
        erw [hm]
        simp only [Result.andThen_ok]
        have : (fun (x : Nat) => pl.toArray[x]?) = fun (i : Nat) => pl[i]? := by funext i; simp
        rw [this, hzs]
        rfl
      · cases hr
    · cases hr
  · rename_i n e hu
    split at hr
    · rename_i s hs
      split at hr
      · rename_i l hl
        simp only [Option.some.injEq] at hr; subst hr
        obtain ⟨zs, hzs, hL⟩ := afill_ok _ ps qs.toList z.cells y.cells l hp (hV E).cells hl
        refine Good.same h (x := .agg zs) ?_ (by simp only [V]; exact ⟨_, rfl, hL⟩)
        simp only [Instr.build, Sem.run_bind, hy, Result.andThen_ok, run_underlying hu, run_sizeOf' hs]
        rw [hzs]
        rfl
      · cases hr
    · cases hr
  · cases hr

/-- n cells that repeat others. -/
def repl (z : List AV) (n : Nat) : List AV := (List.range n).map fun i => (z[i % z.length]?).getD .nptr
theorem repl_ok {z : List AV} {ys : Array Value} (h : VL ν E z ys.toList) (hz : 0 < z.length) (n : Nat) : VL ν E (repl z n) ((Array.range n).map (ys[· % ys.size]!)).toList := by
  have hlen := h.length
  simp only [Array.length_toList] at hlen
  refine VL.of_get (by simp [repl]) fun i v x h1 h2 => ?_
  have hi : i < n := by
    have := (List.getElem?_eq_some_iff.1 h1).1
    simpa [repl] using this
  have hm : i % z.length < z.length := Nat.mod_lt _ hz
  simp only [repl, List.getElem?_map, List.getElem?_range hi, Option.map_some, Option.some.injEq] at h1
  rw [List.getElem?_eq_getElem hm, Option.getD_some] at h1
  obtain ⟨y, hy, hV⟩ := h.get (List.getElem?_eq_getElem hm)
  have hy' : ys[i % ys.size]? = some y := by rw [hlen]; simpa using hy
  have : x = y := by
    simp only [Array.toList_map, Array.toList_range, List.getElem?_map, List.getElem?_range hi, Option.map_some, Option.some.injEq] at h2
    rw [← h2, getElem!_def, hy']
  subst h1; rw [this]; exact hV
variable (P) in
def abuildSlice (t : TypeId) (len : Nat) (parts : List (Nat × AV)) (M : Mem) : Option (AV × Mem) :=
  match P.underlying t with
  | some (.slice e) => match tsize P e with
    | none => none
    | some s => match Nat.ble (len * s) 16777216 with
      | false => none
      | true => match Nat.beq (len * s) 0 with
        | true => match parts with
          | [] => some (.slice M.k 0 len len, M.new (.cells (Blk.ofList [])))
          | _ => none
        | false => match tzero P e with
          | none => none
          | some z => match Nat.blt 0 z.cells.length with
            | false => none
            | true => match afill (fun i => some (i * s, s)) (repl z.cells (len * s)) parts with
              | some l => some (.slice M.k 0 len len, M.new (.cells (Blk.ofList l)))
              | none => none
  | _ => none
theorem abuildSlice_ok (h : MR ν B w0 E M w) {t : TypeId} {len : Nat} {ps : List (Nat × AV)} {qs : Array (Nat × Value)} (hp : VP ν E ps qs.toList) {r : AV × Mem} (hr : abuildSlice P t len ps M = some r) : Good P ν B w0 E M w (Instr.buildSlice t len qs) r := by
  unfold abuildSlice at hr
  split at hr
  case h_2 => cases hr
  rename_i e hu
  split at hr
  · cases hr
  rename_i s hs
  split at hr
  · cases hr
  rename_i hle
  have hle := Nat.le_of_ble_eq_true hle
  split at hr
  · rename_i hz
    have hz := Nat.eq_of_beq_eq_true hz
    split at hr
    case h_2 => cases hr
    simp only [VP] at hp
    simp only [Option.some.injEq] at hr; subst hr
    obtain ⟨E', a, hE, hrun, rfl, hn, hM⟩ := newRow_ok (P := P) (l := []) (xs := []) h (by simp only [VL]) e
    refine ⟨E', .slice (some ⟨w.heap.size, 0, none⟩) len len, _, hE, ?_, ?_, hM⟩
    · simp only [Instr.buildSlice, Sem.run_bind, run_underlying hu, Result.andThen_ok, run_sizeOf' hs, Sem.run_ite, Sem.run_pure]
      rw [if_neg (by omega), if_pos hz]
      simp only [Result.andThen_ok, hp, Instr.fill, Sem.run_pure]
      have : (Array.range (len * s)).map (fun x => (#[] : Array Value)[x % (#[] : Array Value).size]!) = [].toArray := by rw [hz]; simp
      rw [this]
      simp [hrun]
    · simp only [V]; exact ⟨_, hn, rfl⟩
  · rename_i hz
    have hz := Nat.ne_of_beq_eq_false hz
    split at hr
    · cases hr
    rename_i z hzv
    split at hr
    · cases hr
    rename_i hpos
    have hpos := blt_iff.1 hpos
    split at hr
    case h_2 => cases hr
    rename_i l hl
    simp only [Option.some.injEq] at hr; subst hr
    obtain ⟨y, hy, hV⟩ := run_zero (ν := ν) hzv w
    obtain ⟨zs, hzs, hL⟩ := afill_ok _ ps qs.toList _ _ l hp (repl_ok (hV E).cells hpos (len * s)) hl
    obtain ⟨E', a, hE, hrun, rfl, hn, hM⟩ := newRow_ok (P := P) h hL e
    refine ⟨E', .slice (some ⟨w.heap.size, 0, none⟩) len len, _, hE, ?_, ?_, hM⟩
    · simp only [Instr.buildSlice, Sem.run_bind, run_underlying hu, Result.andThen_ok, run_sizeOf' hs, Sem.run_ite, Sem.run_pure]
      rw [if_neg (by omega), if_neg hz]
      simp only [hy, Sem.run_bind, Result.andThen_ok, Sem.run_pure]
      rw [hzs]
      simp only [Sem.run_bind]
      rw [show newRow e zs = newRow e zs.toList.toArray from by simp, hrun]
      simp
    · simp only [V]; exact ⟨_, hn, rfl⟩

theorem wrap_small {n : Int} (h0 : 0 ≤ n) (h1 : n ≤ 1152921504606846976) : IntKind.i64.wrap n = n := IntWalk.i64_in _ (by omega)

variable (P) in
def amakeSlice (t : TypeId) (a b : AV) (M : Mem) : Option (AV × Mem) :=
  match a, b with
  | .int _ (.ofNat len), .int _ (.ofNat cap) => match P.underlying t with
    | some (.slice e) => match P.info? e with
      | some i => match tzero P e with
        | some z => match Nat.ble len cap, Nat.ble cap 1099511627776, Nat.ble (i.bytes * cap) 281474976710656, Nat.blt 0 z.cells.length with
          | true, true, true, true => some (.slice M.k 0 len cap, M.new (.cells ⟨z.cells, z.cells.length, cap * i.size, .nil⟩))
          | _, _, _, _ => none
        | none => none
      | none => none
    | _ => none
  | _, _ => none
theorem amakeSlice_ok (h : MR ν B w0 E M w) {t : TypeId} {a b : AV} {x y : Value} (ha : V ν E a x) (hb : V ν E b y) {r : AV × Mem} (hr : amakeSlice P t a b M = some r) : Good P ν B w0 E M w (Instr.makeSlice t x y) r := by
  unfold amakeSlice at hr
  split at hr
  case h_2 => cases hr
  rename_i k1 len k2 cap
  simp only [V] at ha hb
  subst ha; subst hb
  split at hr
  case h_2 => cases hr
  rename_i e hu
  split at hr
  case h_2 => cases hr
  rename_i i hi
  split at hr
  case h_2 => cases hr
  rename_i z hz
  split at hr
  case h_2 => cases hr
  rename_i c1 c2 c3 c4
  have c1 := Nat.le_of_ble_eq_true c1
  have c2 := Nat.le_of_ble_eq_true c2
  have c3 := Nat.le_of_ble_eq_true c3
  have c4 := blt_iff.1 c4
  simp only [Option.some.injEq] at hr; subst hr
  obtain ⟨y, hy, hV⟩ := run_zero (ν := ν) hz w
  have hc := (hV E).cells
  have hlen := hc.length
  simp only [Array.length_toList] at hlen
  have w1 := wrap_small (n := Int.ofNat len) (by simp) (by simp; omega)
  have w2 := wrap_small (n := Int.ofNat cap) (by simp) (by simp; omega)
  have hrep := repl_ok hc c4 (cap * i.size)
  have hM := h.newCells ⟨z.cells, z.cells.length, cap * i.size, .nil⟩ ((Array.range (cap * i.size)).map (y.cells[· % y.cells.size]!)) e (by simp) (fun j v hv => by
    have hj := Blk.get_lt hv
    simp only at hj
    have : (repl z.cells (cap * i.size))[j]? = some v := by
      simp only [repl, List.getElem?_map, List.getElem?_range hj, Option.map_some, Option.some.injEq]
      unfold Blk.get at hv
      simp only [T.get_nil] at hv
      cases e : Nat.blt j (cap * i.size) with
      | false => rw [e] at hv; cases hv
      | true => rw [e] at hv; simp only at hv; rw [hv]; rfl
    obtain ⟨x, hx, hX⟩ := hrep.get this
    exact ⟨x, by rw [← Array.getElem?_toList]; exact hx, hX⟩)
  refine ⟨_, .slice (some ⟨w.heap.size, 0, none⟩) len cap, _, h.ext_put _, ?_, ?_, hM⟩
  · simp only [Instr.makeSlice, Sem.run_bind, run_underlying hu, Result.andThen_ok, asInt, asIntOf, Sem.run_pure, run_info hi, w1, w2]
    rw [if_neg (by
      have e1 : (i.bytes : Int) * Int.ofNat cap = ((i.bytes * cap : Nat) : Int) := by simp
      simp only [e1, Bool.or_eq_true, decide_eq_true_eq]
      simp
      omega)]
    simp only [Sem.run_bind, Sem.run_pure, run_askRoom, Result.andThen_ok]
    have hs : tsize P e = some i.size := by unfold tsize; rw [hi]
    simp only [run_sizeOf' hs, Result.andThen_ok]
    have hcap : (Int.ofNat cap).toNat = cap := by simp
    have hlen' : (Int.ofNat len).toNat = len := by simp
    rw [hcap, hlen']
    by_cases h0 : cap * i.size = 0
    · simp only [h0, if_true, Sem.run_pure, Result.andThen_ok, newRow, Sem.run_bind, run_newObj]
      simp [show Array.range 0 = (#[] : Array Nat) from rfl]
    · simp only [h0, if_false, Sem.run_bind, hy, Sem.run_pure, Result.andThen_ok, newRow, run_newObj]
      rfl
  · simp only [V]; exact ⟨_, Env.put_self _ _ _, by simp⟩
end

end Go.Proofs.YtnidkdjapieinaaDoor.Ev
