/- The little machine's memory: blocks of cells, maps, iterators; what a world has to do with it. No program is walked here. -/
import Derived.Test.YtnidkdjapieinaaDoorEvA
import Derived.MapKept
noncomputable section
namespace Go.Proofs.YtnidkdjapieinaaDoor.Ev
open Go.RowKit
set_option linter.unusedSimpArgs false
set_option linter.unusedVariables false

/-- Cells: the first m are known; u has those that were written; the others repeat base, z cells long. -/
structure Blk where
  base : List AV
  z : Nat
  m : Nat
  u : T AV

def Blk.get : Blk → Nat → Option AV
  | ⟨base, z, m, u⟩, i => match Nat.blt i m with
    | false => none
    | true => match u.get i with
      | some v => some v
      | none => base[i % z]?
def Blk.set : Blk → Nat → AV → Blk
  | ⟨base, z, m, u⟩, i, v => ⟨base, z, m, T.set (i + 1) u i v⟩
def Blk.ofList (l : List AV) : Blk := ⟨l, l.length, l.length, .nil⟩
def Blk.setL : List AV → Nat → Blk → Blk
  | [], _, B => B
  | v :: vs, i, B => Blk.setL vs (i + 1) (B.set i v)
def Blk.getL (B : Blk) : Nat → Nat → Option (List AV)
  | 0, _ => some []
  | n + 1, o => match B.get o with
    | none => none
    | some v => match B.getL n (o + 1) with
      | none => none
      | some l => some (v :: l)

theorem blt_iff {a b : Nat} : Nat.blt a b = true ↔ a < b := by
  unfold Nat.blt
  rw [Nat.ble_eq]
  omega
theorem Blk.get_set (B : Blk) (i j : Nat) (v : AV) (h : i < B.m) : (B.set i v).get j = if i = j then some v else B.get j := by
  obtain ⟨base, z, m, u⟩ := B
  simp only at h
  unfold Blk.get Blk.set
  simp only
  rw [T.get_set _ _ _ _ _ (Nat.lt_succ_self i)]
  by_cases e : i = j
  · subst e
    have : Nat.blt i m = true := blt_iff.2 h
    simp [this]
  · simp [e]
theorem Blk.get_set' {B : Blk} {i j : Nat} {v u : AV} (h : (B.set i v).get j = some u) : (i = j ∧ u = v) ∨ (i ≠ j ∧ B.get j = some u) := by
  by_cases hi : i < B.m
  · rw [Blk.get_set _ _ _ _ hi] at h
    split at h
    · rename_i e; simp at h; exact .inl ⟨e, h.symm⟩
    · rename_i e; exact .inr ⟨e, h⟩
  · obtain ⟨base, z, m, u'⟩ := B
    simp only at hi
    unfold Blk.get Blk.set at h
    simp only at h
    rw [T.get_set _ _ _ _ _ (Nat.lt_succ_self i)] at h
    cases e : Nat.blt j m with
    | false => rw [e] at h; cases h
    | true =>
      have hj := blt_iff.1 e
      have hne : i ≠ j := by omega
      rw [e, if_neg hne] at h
      refine .inr ⟨hne, ?_⟩
      unfold Blk.get
      simp only [e]
      exact h
theorem Blk.m_set (B : Blk) (i : Nat) (v : AV) : (B.set i v).m = B.m := by cases B; rfl
theorem Blk.get_lt {B : Blk} {i : Nat} {v : AV} (h : B.get i = some v) : i < B.m := by
  obtain ⟨base, z, m, u⟩ := B
  unfold Blk.get at h
  simp only at h ⊢
  cases e : Nat.blt i m with
  | false => rw [e] at h; cases h
  | true => exact blt_iff.1 e
theorem Blk.get_ofList (l : List AV) (i : Nat) : (Blk.ofList l).get i = l[i]? := by
  unfold Blk.get Blk.ofList
  simp only [T.get_nil]
  cases e : Nat.blt i l.length with
  | false =>
    have : ¬ i < l.length := by
      intro h
      have h2 : Nat.blt i l.length = true := blt_iff.2 h
      rw [h2] at e; cases e
    simp [List.getElem?_eq_none (Nat.le_of_not_lt this)]
  | true =>
    have : i < l.length := blt_iff.1 e
    simp [Nat.mod_eq_of_lt this]
theorem Blk.m_setL : ∀ (l : List AV) (i : Nat) (B : Blk), (Blk.setL l i B).m = B.m
  | [], _, _ => rfl
  | _ :: l, i, B => by simp only [Blk.setL]; rw [Blk.m_setL l, Blk.m_set]
theorem Blk.getL_len {B : Blk} : ∀ {n o : Nat} {l : List AV}, B.getL n o = some l → l.length = n
  | 0, o, l, h => by simp only [Blk.getL, Option.some.injEq] at h; subst h; rfl
  | n + 1, o, l, h => by
    simp only [Blk.getL] at h
    cases e : B.get o with
    | none => rw [e] at h; cases h
    | some v =>
      cases e2 : B.getL n (o + 1) with
      | none => rw [e, e2] at h; cases h
      | some l' => rw [e, e2] at h; simp only [Option.some.injEq] at h; subst h; simp [Blk.getL_len e2]
theorem Blk.getL_get {B : Blk} : ∀ {n o : Nat} {l : List AV}, B.getL n o = some l → ∀ i, i < n → B.get (o + i) = l[i]?
  | 0, o, l, h, i, hi => by omega
  | n + 1, o, l, h, i, hi => by
    simp only [Blk.getL] at h
    cases e : B.get o with
    | none => rw [e] at h; cases h
    | some v =>
      cases e2 : B.getL n (o + 1) with
      | none => rw [e, e2] at h; cases h
      | some l' =>
        rw [e, e2] at h; simp only [Option.some.injEq] at h; subst h
        cases i with
        | zero => simpa using e
        | succ i =>
          have := Blk.getL_get e2 i (by omega)
          rw [show o + (i + 1) = o + 1 + i from by omega, this]
          simp

inductive AObj where
  | cells (B : Blk)
  | map (es : List (AV × AV × Nat)) (clock : Nat)
  | miter (m : Option Nat) (since : Nat) (seen : List Nat) (last : Nat)
  | siter (l : List Nat) (pos : Nat)
  /-- a map whose entries' order is not known -/
  | umap (es : List (AV × AV))

/-- n: numbers from n on are free; k: the number of the next new block (n itself, or one that was set aside). -/
structure Mem where
  h : T (Option AObj)
  n : Nat
  k : Nat
def Mem.get : Mem → Nat → Option AObj
  | ⟨h, _, _⟩, b => match h.get b with
    | some (some o) => some o
    | _ => none
def Mem.put : Mem → Nat → AObj → Mem
  | ⟨h, n, k⟩, b, o => ⟨T.set (b + 1) h b (some o), n, k⟩
def Mem.drop : Mem → Nat → Mem
  | ⟨h, n, k⟩, b => ⟨T.set (b + 1) h b none, n, k⟩
def nextNo (n k : Nat) : Nat := match Nat.blt k n with
  | true => n
  | false => k + 1
def Mem.next (M : Mem) : Nat := nextNo M.n M.k
def Mem.new : Mem → AObj → Mem
  | ⟨h, n, k⟩, o => ⟨T.set (k + 1) h k (some o), nextNo n k, nextNo n k⟩
theorem Mem.put_n (M : Mem) (b : Nat) (o : AObj) : (M.put b o).n = M.n := by cases M; rfl
theorem Mem.put_k (M : Mem) (b : Nat) (o : AObj) : (M.put b o).k = M.k := by cases M; rfl
theorem Mem.drop_n (M : Mem) (b : Nat) : (M.drop b).n = M.n := by cases M; rfl
theorem Mem.drop_k (M : Mem) (b : Nat) : (M.drop b).k = M.k := by cases M; rfl
theorem Mem.new_n (M : Mem) (o : AObj) : (M.new o).n = M.next := by cases M; rfl
theorem Mem.new_k (M : Mem) (o : AObj) : (M.new o).k = M.next := by cases M; rfl
def Mem.start : Mem := ⟨.nil, 0, 0⟩

theorem Mem.get_put (M : Mem) (b : Nat) (o : AObj) (k : Nat) : (M.put b o).get k = if b = k then some o else M.get k := by
  obtain ⟨h, n, kk⟩ := M
  unfold Mem.get Mem.put
  simp only
  rw [T.get_set _ _ _ _ _ (Nat.lt_succ_self b)]
  by_cases e : b = k <;> simp [e]
theorem Mem.get_drop (M : Mem) (b : Nat) (k : Nat) : (M.drop b).get k = if b = k then none else M.get k := by
  obtain ⟨h, n, kk⟩ := M
  unfold Mem.get Mem.drop
  simp only
  rw [T.get_set _ _ _ _ _ (Nat.lt_succ_self b)]
  by_cases e : b = k <;> simp [e]
theorem Mem.get_new (M : Mem) (o : AObj) (k : Nat) : (M.new o).get k = if M.k = k then some o else M.get k := by
  obtain ⟨h, n, kk⟩ := M
  unfold Mem.get Mem.new
  simp only
  rw [T.get_set _ _ _ _ _ (Nat.lt_succ_self kk)]
  by_cases e : kk = k <;> simp [e]
theorem Mem.n_le_next (M : Mem) : M.n ≤ M.next := by
  unfold Mem.next nextNo
  cases e : Nat.blt M.k M.n with
  | true => simp
  | false =>
    have : ¬ M.k < M.n := fun h => by rw [blt_iff.2 h] at e; cases e
    simp only; omega
theorem Mem.k_lt_next (M : Mem) : M.k < M.next := by
  unfold Mem.next nextNo
  cases e : Nat.blt M.k M.n with
  | true => simpa using blt_iff.1 e
  | false => simp
theorem Mem.get_start (k : Nat) : Mem.start.get k = none := rfl

section
variable {ν : Nat → Value}
/-- Entries of a map. -/
def ME (ν : Nat → Value) (E : Env) : List (AV × AV × Nat) → List MapEntry → Prop
  | [], ms => ms = []
  | e :: es, ms => ∃ m ms', ms = m :: ms' ∧ V ν E e.1 m.key ∧ V ν E e.2.1 m.val ∧ m.born = e.2.2 ∧ ME ν E es ms'
theorem ME.mono {E E' : Env} (h : E.le E') : ∀ (es : List (AV × AV × Nat)) (ms : List MapEntry), ME ν E es ms → ME ν E' es ms
  | [], ms, k => by simpa only [ME] using k
  | e :: es, ms, k => by
    simp only [ME] at k ⊢
    obtain ⟨m, ms', rfl, k1, k2, k3, k4⟩ := k
    exact ⟨m, ms', rfl, V.mono h _ _ k1, V.mono h _ _ k2, k3, ME.mono h es ms' k4⟩

/-- Entries of a map in whatever order: each of one stands for one of the other. -/
def UM (ν : Nat → Value) (E : Env) (es : List (AV × AV)) (ms : List MapEntry) : Prop :=
  (∀ m ∈ ms, ∃ e ∈ es, V ν E e.1 m.key ∧ V ν E e.2 m.val) ∧ ∀ e ∈ es, ∃ m ∈ ms, V ν E e.1 m.key ∧ V ν E e.2 m.val
theorem UM.mono {E E' : Env} (h : E.le E') {es : List (AV × AV)} {ms : List MapEntry} (k : UM ν E es ms) : UM ν E' es ms :=
  ⟨fun m hm => let ⟨e, h1, h2, h3⟩ := k.1 m hm; ⟨e, h1, V.mono h _ _ h2, V.mono h _ _ h3⟩, fun e he => let ⟨m, h1, h2, h3⟩ := k.2 e he; ⟨m, h1, V.mono h _ _ h2, V.mono h _ _ h3⟩⟩

/-- What an object stands for. -/
def OR (ν : Nat → Value) (E : Env) (o : AObj) (p : Nat × Nat × Nat) (w : World) : Prop :=
  match o with
  | .cells B => ∃ cs t fr, w.heap[p.1]? = some (.cells cs t fr) ∧ cs.size = p.2.1 + p.2.2 ∧ B.m ≤ p.2.2 ∧
      (fr.1 = fr.2 ∨ cs.size ≤ fr.1) ∧ ∀ i v, B.get i = some v → ∃ x, cs[p.2.1 + i]? = some x ∧ V ν E v x
  | .map es clock => ∃ ms, w.heap[p.1]? = some (.map ms clock) ∧ ME ν E es ms.toList
  | .miter m since seen last => ∃ m', w.heap[p.1]? = some (.mapIter m' since seen.toArray last) ∧ p.2.1 = 0 ∧
      (match m with | none => m' = none | some b => ∃ q, E b = some q ∧ m' = some q.1)
  | .siter l pos => w.heap[p.1]? = some (.stringIter (bytes l) pos) ∧ p.2.1 = 0 ∧ ∀ c ∈ l, c < 256
  | .umap es => ∃ ms clock, w.heap[p.1]? = some (.map ms clock) ∧ UM ν E es ms.toList ∧ MapKept.Stamped ms clock

theorem OR.mono {E E' : Env} {o : AObj} {p : Nat × Nat × Nat} {w w' : World} (h : OR ν E o p w) (hE : E.le E') (hw : w'.heap[p.1]? = w.heap[p.1]?) : OR ν E' o p w' := by
  unfold OR at *
  rw [hw]
  cases o with
  | cells B =>
    obtain ⟨cs, t, fr, h1, h2, h3, h4, h5⟩ := h
    refine ⟨cs, t, fr, h1, h2, h3, h4, fun i v hv => ?_⟩
    obtain ⟨x, hx, hV⟩ := h5 i v hv
    exact ⟨x, hx, V.mono hE _ _ hV⟩
  | map es clock =>
    obtain ⟨ms, h1, h2⟩ := h
    exact ⟨ms, h1, ME.mono hE _ _ h2⟩
  | miter m since seen last =>
    obtain ⟨m', h1, h0, h2⟩ := h
    refine ⟨m', h1, h0, ?_⟩
    cases m with
    | none => exact h2
    | some b => obtain ⟨q, e, k⟩ := h2; exact ⟨q, hE _ _ e, k⟩
  | siter l pos => exact h
  | umap es =>
    obtain ⟨ms, clock, h1, h2, h3⟩ := h
    exact ⟨ms, clock, h1, h2.mono hE, h3⟩

theorem OR.lt {E : Env} {o : AObj} {p : Nat × Nat × Nat} {w : World} (h : OR ν E o p w) : p.1 < w.heap.size := by
  unfold OR at h
  cases o with
  | cells B => obtain ⟨cs, t, fr, h1, _⟩ := h; exact (Array.getElem?_eq_some_iff.1 h1).1
  | map es clock => obtain ⟨ms, h1, _⟩ := h; exact (Array.getElem?_eq_some_iff.1 h1).1
  | miter m since seen last => obtain ⟨m', h1, _⟩ := h; exact (Array.getElem?_eq_some_iff.1 h1).1
  | siter l pos => exact (Array.getElem?_eq_some_iff.1 h.1).1
  | umap es => obtain ⟨ms, clock, h1, _⟩ := h; exact (Array.getElem?_eq_some_iff.1 h1).1

/-- What is left alone: all blocks below a number, and some above it, with what they hold. -/
structure Zone where
  n : Nat
  z : Nat → Option Obj
def Zone.low (n : Nat) : Zone := ⟨n, fun _ => none⟩
/-- Memory M stands for world w; below block number B the world is as w0 was. -/
structure MR (ν : Nat → Value) (B : Zone) (w0 : World) (E : Env) (M : Mem) (w : World) : Prop where
  low : Below B.n w0 w
  kept : ∀ p o, B.z p = some o → w.heap[p]? = some o
  big : B.n ≤ w.heap.size
  dom : ∀ b p, E b = some p → b < M.n
  free : E M.k = none
  rng : ∀ b p, E b = some p → B.n ≤ p.1
  off : ∀ b o p, M.get b = some o → E b = some p → B.z p.1 = none
  obj : ∀ b o, M.get b = some o → ∃ p, E b = some p ∧ OR ν E o p w
  inj : ∀ b b' o o' p p', M.get b = some o → M.get b' = some o' → E b = some p → E b' = some p' → p.1 = p'.1 → b = b'

variable {B : Zone} {w0 w : World} {E : Env} {M : Mem}

theorem MR.start (w : World) : MR ν (.low w.heap.size) w (fun _ => none) Mem.start w :=
  ⟨Below.refl _ _, fun _ _ h => (by cases h), Nat.le_refl _, fun _ _ h => (by cases h), rfl, fun _ _ h => (by cases h), fun _ _ _ _ h => (by cases h), fun _ _ h => (by rw [Mem.get_start] at h; cases h), fun _ _ _ _ _ _ h => (by rw [Mem.get_start] at h; cases h)⟩

theorem MR.congr {M' : Mem} (h : MR ν B w0 E M w) (hg : ∀ b o, M'.get b = some o → M.get b = some o) (hn : M.n ≤ M'.n) (hk : E M'.k = none) : MR ν B w0 E M' w :=
  ⟨h.low, h.kept, h.big, fun b p e => Nat.lt_of_lt_of_le (h.dom b p e) hn, hk, h.rng, fun b o p k => h.off b o p (hg b o k), fun b o k => h.obj b o (hg b o k), fun b b' o o' p p' k k' => h.inj b b' o o' p p' (hg b o k) (hg b' o' k')⟩

theorem MR.drew (h : MR ν B w0 E M w) : MR ν B w0 E M w.drew :=
  ⟨h.low.drew, h.kept, h.big, h.dom, h.free, h.rng, h.off, fun b o k => let ⟨p, e, r⟩ := h.obj b o k; ⟨p, e, r.mono (Env.le_refl E) rfl⟩, h.inj⟩

/-- Where a block's number goes. -/
def Env.put (E : Env) (b : Nat) (p : Nat × Nat × Nat) : Env := fun k => if b = k then some p else E k
theorem MR.le_put (h : MR ν B w0 E M w) (p : Nat × Nat × Nat) : E.le (E.put M.k p) := fun b q e => by
  have := h.free
  unfold Env.put
  rw [if_neg (fun x => by subst x; rw [this] at e; cases e)]
  exact e
/-- New numbers alone have come in. -/
def Ext (M : Mem) (E E' : Env) : Prop := E.le E' ∧ ∀ b, b < M.n → b ≠ M.k → E' b = E b
theorem Ext.refl (M : Mem) (E : Env) : Ext M E E := ⟨Env.le_refl E, fun _ _ _ => rfl⟩
theorem MR.ext_put (h : MR ν B w0 E M w) (p : Nat × Nat × Nat) : Ext M E (E.put M.k p) := ⟨h.le_put p, fun b _ hk => by unfold Env.put; rw [if_neg (fun x => hk x.symm)]⟩
theorem Env.put_self (E : Env) (b : Nat) (p : Nat × Nat × Nat) : E.put b p b = some p := by simp [Env.put]

theorem MR.new (h : MR ν B w0 E M w) (o : AObj) (O : Obj) (s : Nat) (ho : OR ν (E.put M.k (w.heap.size, 0, s)) o (w.heap.size, 0, s) (w.alloc O)) :
    MR ν B w0 (E.put M.k (w.heap.size, 0, s)) (M.new o) (w.alloc O) := by
  have hle := h.le_put (w.heap.size, 0, s)
  have hnext : (E.put M.k (w.heap.size, 0, s)) M.next = none := by
    unfold Env.put
    rw [if_neg (by have := M.k_lt_next; omega)]
    cases e : E M.next with
    | none => rfl
    | some p => have := h.dom _ p e; have := M.n_le_next; omega
  have hz : B.z w.heap.size = none := by
    cases e : B.z w.heap.size with
    | none => rfl
    | some o => have := h.kept _ _ e; simp at this
  refine ⟨h.low.alloc h.big O, fun q oq k => (Below.heap_alloc _ _ _ (Array.getElem?_eq_some_iff.1 (h.kept q oq k)).1).trans (h.kept q oq k), by have := h.big; simp; omega, fun b p e => ?_, hnext, fun b p e => ?_, fun b o' p k e => ?_, fun b o' k => ?_, fun b b' o1 o2 p p' k k' e e' hp => ?_⟩
  · rw [Mem.new_n]
    unfold Env.put at e
    split at e
    · rename_i hb; have := M.k_lt_next; omega
    · have := h.dom b p e; have := M.n_le_next; omega
  · unfold Env.put at e
    split at e
    · simp at e; subst e; exact h.big
    · exact h.rng b p e
  · unfold Env.put at e
    rw [Mem.get_new] at k
    split at e
    · simp at e; subst e; exact hz
    · rename_i hb
      rw [if_neg hb] at k
      exact h.off b o' p k e
  · rw [Mem.get_new] at k
    split at k
    · rename_i hb
      subst hb
      simp at k; subst k
      exact ⟨_, Env.put_self _ _ _, ho⟩
    · obtain ⟨p, e, r⟩ := h.obj b o' k
      exact ⟨p, hle _ _ e, r.mono hle (Below.heap_alloc _ _ _ r.lt)⟩
  · rw [Mem.get_new] at k k'
    have old : ∀ (c : Nat) (oc : AObj) (q : Nat × Nat × Nat), M.k ≠ c → M.get c = some oc → (E.put M.k (w.heap.size, 0, s)) c = some q → q.1 < w.heap.size := by
      intro c oc q hc kc ec
      obtain ⟨p2, e2, r2⟩ := h.obj c oc kc
      unfold Env.put at ec
      rw [if_neg hc, e2] at ec
      simp at ec; subst ec; exact r2.lt
    by_cases hb : M.k = b
    · by_cases hb' : M.k = b'
      · omega
      · rw [if_neg hb'] at k'
        have := old b' o2 p' hb' k' e'
        subst hb
        rw [Env.put_self] at e
        simp at e; subst e
        simp at hp; omega
    · rw [if_neg hb] at k
      by_cases hb' : M.k = b'
      · have := old b o1 p hb k e
        subst hb'
        rw [Env.put_self] at e'
        simp at e'; subst e'
        simp at hp; omega
      · rw [if_neg hb'] at k'
        unfold Env.put at e e'
        rw [if_neg hb] at e
        rw [if_neg hb'] at e'
        exact h.inj b b' o1 o2 p p' k k' e e' hp

/-- A block turned in its place. -/
theorem MR.turn (h : MR ν B w0 E M w) {b : Nat} {o o' : AObj} (hb : M.get b = some o) {p : Nat × Nat × Nat} (hp : E b = some p) {w' : World}
    (hlow : Below B.n w w') (hsz : w.heap.size ≤ w'.heap.size) (hoth : ∀ k, k ≠ p.1 → k < w.heap.size → w'.heap[k]? = w.heap[k]?) (ho : OR ν E o' p w') : MR ν B w0 E (M.put b o') w' := by
  refine ⟨h.low.trans hlow, fun q oq k => ?_, Nat.le_trans h.big hsz, by rw [Mem.put_n]; exact h.dom, by rw [Mem.put_k]; exact h.free, h.rng, fun c oc q k e => ?_, fun c oc k => ?_, fun c c' o1 o2 q q' k k' e e' hq => ?_⟩
  · have hk := h.kept q oq k
    refine (hoth q (fun e => ?_) (Array.getElem?_eq_some_iff.1 hk).1).trans hk
    have := h.off b o p hb hp
    rw [← e, k] at this; cases this
  · rw [Mem.get_put] at k
    split at k
    · rename_i hc; subst hc; exact h.off b o q hb e
    · exact h.off c oc q k e
  · rw [Mem.get_put] at k
    split at k
    · rename_i hc
      subst hc
      simp at k; subst k
      exact ⟨p, hp, ho⟩
    · rename_i hc
      obtain ⟨q, e, r⟩ := h.obj c oc k
      refine ⟨q, e, r.mono (Env.le_refl E) (hoth _ (fun eq => hc ?_) r.lt)⟩
      exact h.inj b c o oc p q hb k hp e eq.symm
  · rw [Mem.get_put] at k k'
    have get' : ∀ (d : Nat) (od : AObj), (if b = d then some o' else M.get d) = some od → ∃ od', M.get d = some od' := by
      intro d od kd
      split at kd
      · rename_i hd; subst hd; exact ⟨o, hb⟩
      · exact ⟨od, kd⟩
    obtain ⟨o1', k1⟩ := get' c o1 k
    obtain ⟨o2', k2⟩ := get' c' o2 k'
    exact h.inj c c' o1' o2' q q' k1 k2 e e' hq

theorem heap_setCell_self (w : World) (a : Addr) (x : Value) (cs : Array Value) (t : TypeId) (fr : Nat × Nat) (ha : a.spot = none) (h : w.heap[a.block]? = some (.cells cs t fr)) :
    (w.setCell a x).heap[a.block]? = some (.cells (cs.setIfInBounds a.off x) t fr) := by
  simp only [World.setCell, Array.getElem?_modify, if_true, h, Option.map_some, ha, Option.isSome_none, Bool.false_eq_true, if_false]

theorem MR.cell (h : MR ν B w0 E M w) {b : Nat} {K : Blk} (hb : M.get b = some (.cells K)) {p : Nat × Nat × Nat} (hp : E b = some p) {i : Nat} {v : AV} (hv : K.get i = some v) :
    ∃ x, w.cell? ⟨p.1, p.2.1 + i, none⟩ = some x ∧ V ν E v x ∧ w.frozen? ⟨p.1, p.2.1 + i, none⟩ = false := by
  obtain ⟨q, e, r⟩ := h.obj b _ hb
  rw [hp] at e
  simp at e; subst e
  obtain ⟨cs, t, fr, h1, h2, h3, h4, h5⟩ := r
  obtain ⟨x, hx, hV⟩ := h5 i v hv
  refine ⟨x, by simp [World.cell?, h1, hx], hV, ?_⟩
  have := Blk.get_lt hv
  have : ¬ (fr.1 ≤ p.2.1 + i ∧ p.2.1 + i < fr.2) := by omega
  simp only [World.frozen?, h1]
  simpa using this

theorem MR.setCell (h : MR ν B w0 E M w) {b : Nat} {K : Blk} (hb : M.get b = some (.cells K)) {p : Nat × Nat × Nat} (hp : E b = some p) {i : Nat} (hi : i < p.2.2) {v : AV} {x : Value} (hv : V ν E v x) :
    MR ν B w0 E (M.put b (.cells (K.set i v))) (w.setCell ⟨p.1, p.2.1 + i, none⟩ x) := by
  have hr := h.rng b p hp
  refine h.turn hb hp ((Below.refl _ _).setCell hr _) (by simp [World.setCell]) (fun k hk _ => Below.heap_setCell _ _ _ _ hk) ?_
  obtain ⟨q, e, r⟩ := h.obj b _ hb
  rw [hp] at e
  simp at e; subst e
  obtain ⟨cs, t, fr, h1, h2, h3, h4, h5⟩ := r
  refine ⟨_, t, fr, heap_setCell_self w ⟨p.1, p.2.1 + i, none⟩ x cs t fr rfl h1, by simpa using h2, h3, by simpa using h4, fun j u hu => ?_⟩
  rcases Blk.get_set' hu with ⟨rfl, rfl⟩ | ⟨hj, hu⟩
  · refine ⟨x, ?_, hv⟩
    rw [Array.getElem?_setIfInBounds_self_of_lt (by show p.2.1 + i < cs.size; omega)]
  · obtain ⟨y, hy, hV⟩ := h5 j u hu
    refine ⟨y, ?_, hV⟩
    rw [Array.getElem?_setIfInBounds_ne (by show p.2.1 + i ≠ p.2.1 + j; omega)]
    exact hy

theorem add_at (r d i : Nat) : (⟨r, d, none⟩ : Addr).add i = ⟨r, d + i, none⟩ := by
  cases i with
  | zero => rfl
  | succ i => simp [Addr.add]

theorem MR.loadCells (h : MR ν B w0 E M w) (P : Program) {b : Nat} {K : Blk} (hb : M.get b = some (.cells K)) {p : Nat × Nat × Nat} (hp : E b = some p) {n o : Nat} {l : List AV} (hl : K.getL n o = some l) :
    ∃ xs, VL ν E l xs ∧ (Go.loadCells ⟨p.1, p.2.1 + o, none⟩ n).run P w = .ok xs.toArray w := by
  have key : ∀ (i : Nat), i < n → ∃ x v, l[i]? = some v ∧ w.cell? ⟨p.1, p.2.1 + (o + i), none⟩ = some x ∧ V ν E v x := by
    intro i hi
    have h1 := Blk.getL_get hl i hi
    have h2 : i < l.length := by rw [Blk.getL_len hl]; exact hi
    rw [List.getElem?_eq_getElem h2] at h1
    obtain ⟨x, hx, hV, _⟩ := h.cell hb hp h1
    exact ⟨x, l[i], List.getElem?_eq_getElem h2, hx, hV⟩
  let xs := (List.range n).map fun i => (w.cell? ⟨p.1, p.2.1 + (o + i), none⟩).getD undef
  have hlen : xs.length = n := by simp [xs]
  refine ⟨xs, VL.of_get (by rw [hlen, Blk.getL_len hl]) fun i v x h1 h2 => ?_, ?_⟩
  · have hi : i < n := by rw [← hlen]; exact (List.getElem?_eq_some_iff.1 h2).1
    obtain ⟨y, u, k1, k2, k3⟩ := key i hi
    rw [k1] at h1
    simp at h1; subst h1
    simp only [xs, List.getElem?_map, List.getElem?_range hi, Option.map_some, k2, Option.getD_some, Option.some.injEq] at h2
    subst h2; exact k3
  · have := run_loadCells_list (P := P) (w := w) ⟨p.1, p.2.1 + o, none⟩ xs (fun j v hj => ?_)
    · rw [hlen] at this; exact this
    · have hi : j < n := by rw [← hlen]; exact (List.getElem?_eq_some_iff.1 hj).1
      obtain ⟨y, u, k1, k2, k3⟩ := key j hi
      rw [add_at, Nat.add_assoc, k2]
      simp only [xs, List.getElem?_map, List.getElem?_range hi, Option.map_some, k2, Option.getD_some, Option.some.injEq] at hj
      rw [hj]

def oneAll : List AV → Bool
  | [] => true
  | v :: vs => v.one && oneAll vs

theorem MR.storeCells (P : Program) {b : Nat} {p : Nat × Nat × Nat} (hp : E b = some p) (o : Nat) : ∀ (vs : List AV) (xs : List Value) (i : Nat) (M : Mem) (w : World) (K : Blk), MR ν B w0 E M w → M.get b = some (.cells K) → o + i + vs.length ≤ p.2.2 → VL ν E vs xs → oneAll vs = true →
    ∃ w', (Go.storeCells ⟨p.1, p.2.1 + o, none⟩ xs i).run P w = .ok () w' ∧ MR ν B w0 E (M.put b (.cells (Blk.setL vs (o + i) K))) w'
  | [], xs, i, M, w, K, h, hb, hi, hv, _ => by
    simp only [VL] at hv
    subst hv
    refine ⟨w, rfl, h.congr (fun c oc k => ?_) (Nat.le_refl _) h.free⟩
    rw [Mem.get_put] at k
    split at k
    · rename_i e; subst e; simp only [Blk.setL] at k; rw [← k]; exact hb
    · exact k
  | v :: vs, xs, i, M, w, K, h, hb, hi, hv, h1 => by
    simp only [VL] at hv
    obtain ⟨y, ys, rfl, hy, hys⟩ := hv
    simp only [oneAll, Bool.and_eq_true] at h1
    simp only [List.length_cons] at hi
    have hlt : o + i < p.2.2 := by omega
    obtain ⟨q, e, r⟩ := h.obj b _ hb
    rw [hp] at e
    simp at e; subst e
    obtain ⟨cs, t, fr, g1, g2, g3, g4, g5⟩ := r
    have hcell : w.cell? ⟨p.1, p.2.1 + (o + i), none⟩ = some (cs[p.2.1 + (o + i)]'(by omega)) := by
      simp [World.cell?, g1]
    have hfr : w.frozen? ⟨p.1, p.2.1 + (o + i), none⟩ = false := by
      have : ¬ (fr.1 ≤ p.2.1 + (o + i) ∧ p.2.1 + (o + i) < fr.2) := by omega
      simp only [World.frozen?, g1]
      simpa using this
    have hs := h.setCell hb hp hlt hy
    have hone := V.one hy h1.1
    have hstore := run_store P w ⟨p.1, p.2.1 + (o + i), none⟩ y .plain hone
    rw [hcell, hfr] at hstore
    simp only [Bool.false_eq_true, if_false] at hstore
    obtain ⟨w', hw', hM'⟩ := MR.storeCells P hp o vs ys (i + 1) _ _ (K.set (o + i) v) hs (by rw [Mem.get_put, if_pos rfl]) (by omega) hys h1.2
    refine ⟨w', ?_, ?_⟩
    · simp only [Go.storeCells]
      rw [add_at, Nat.add_assoc, Sem.run_bind]
      simp only [Go.store] at hstore ⊢
      rw [hstore]
      exact hw'
    · simp only [Blk.setL]
      refine hM'.congr (fun c oc k => ?_) (Nat.le_refl _) hM'.free
      rw [Mem.get_put] at k ⊢
      split at k
      · rename_i e; rw [if_pos e]; rw [← Nat.add_assoc]; exact k
      · rename_i e; rw [if_neg e, Mem.get_put, if_neg e]; exact k

/-- Less is known of a block. -/
theorem MR.weaken (h : MR ν B w0 E M w) {b : Nat} {K K' : Blk} (hb : M.get b = some (.cells K)) {p : Nat × Nat × Nat} (hp : E b = some p) (hm : K'.m ≤ p.2.2) (hg : ∀ i v, K'.get i = some v → K.get i = some v) :
    MR ν B w0 E (M.put b (.cells K')) w := by
  refine h.turn hb hp (Below.refl _ _) (Nat.le_refl _) (fun _ _ _ => rfl) ?_
  obtain ⟨q, e, r⟩ := h.obj b _ hb
  rw [hp] at e
  simp at e; subst e
  obtain ⟨cs, t, fr, g1, g2, g3, g4, g5⟩ := r
  exact ⟨cs, t, fr, g1, g2, hm, g4, fun i v hv => g5 i v (hg i v hv)⟩

/-- A block under a new number, from cell o on. -/
theorem MR.move (h : MR ν B w0 E M w) {b : Nat} {K K' : Blk} (hb : M.get b = some (.cells K)) {p : Nat × Nat × Nat} (hp : E b = some p) {o : Nat} (ho : o ≤ p.2.2) (hm : K'.m ≤ p.2.2 - o) (hg : ∀ i v, K'.get i = some v → K.get (o + i) = some v) :
    MR ν B w0 (E.put M.k (p.1, p.2.1 + o, p.2.2 - o)) ((M.drop b).new (.cells K')) w := by
  have hle := h.le_put (p.1, p.2.1 + o, p.2.2 - o)
  have hbn : b ≠ M.k := fun x => by have := h.free; rw [← x, hp] at this; cases this
  have hnext : (E.put M.k (p.1, p.2.1 + o, p.2.2 - o)) M.next = none := by
    unfold Env.put
    rw [if_neg (by have := M.k_lt_next; omega)]
    cases e : E M.next with
    | none => rfl
    | some p => have := h.dom _ p e; have := M.n_le_next; omega
  have hget : ∀ c oc, ((M.drop b).new (.cells K')).get c = some oc → (c = M.k ∧ oc = .cells K') ∨ (c ≠ M.k ∧ c ≠ b ∧ M.get c = some oc) := by
    intro c oc k
    rw [Mem.get_new] at k
    split at k
    · rename_i e; simp at k; exact .inl ⟨e.symm, k.symm⟩
    · rename_i e
      rw [Mem.get_drop] at k
      split at k
      · cases k
      · rename_i e2; exact .inr ⟨fun x => e x.symm, fun x => e2 x.symm, k⟩
  refine ⟨h.low, h.kept, h.big, fun c q e => ?_, hnext, fun c q e => ?_, fun c oc q k e => ?_, fun c oc k => ?_, fun c c' o1 o2 q q' k k' e e' hq => ?_⟩
  · rw [Mem.new_n, show (M.drop b).next = M.next from by cases M; rfl]
    unfold Env.put at e
    split at e
    · rename_i hb; have := M.k_lt_next; omega
    · have := h.dom c q e; have := M.n_le_next; omega
  · unfold Env.put at e
    split at e
    · simp at e; subst e; exact h.rng b p hp
    · exact h.rng c q e
  · rcases hget c oc k with ⟨rfl, rfl⟩ | ⟨hc, _, k⟩
    · rw [Env.put_self] at e
      simp at e; subst e
      exact h.off b _ p hb hp
    · unfold Env.put at e
      rw [if_neg (fun x => hc x.symm)] at e
      exact h.off c oc q k e
  · rcases hget c oc k with ⟨rfl, rfl⟩ | ⟨_, _, k⟩
    · refine ⟨_, Env.put_self _ _ _, ?_⟩
      obtain ⟨q, e, r⟩ := h.obj b _ hb
      rw [hp] at e
      simp at e; subst e
      obtain ⟨cs, t, fr, g1, g2, g3, g4, g5⟩ := r
      refine ⟨cs, t, fr, g1, by simp only; omega, hm, g4, fun i v hv => ?_⟩
      obtain ⟨x, hx, hV⟩ := g5 (o + i) v (hg i v hv)
      refine ⟨x, ?_, V.mono hle _ _ hV⟩
      simp only
      rw [Nat.add_assoc]
      exact hx
    · obtain ⟨q, e, r⟩ := h.obj c oc k
      exact ⟨q, hle _ _ e, r.mono hle rfl⟩
  · rcases hget c o1 k with ⟨rfl, rfl⟩ | ⟨hc, hcb, k⟩
    · rcases hget c' o2 k' with ⟨rfl, rfl⟩ | ⟨hc', hcb', k'⟩
      · rfl
      · rw [Env.put_self] at e
        simp at e; subst e
        unfold Env.put at e'
        rw [if_neg (fun x => hc' x.symm)] at e'
        exact absurd (h.inj b c' _ _ p q' hb k' hp e' hq) (fun x => hcb' x.symm)
    · unfold Env.put at e
      rw [if_neg (fun x => hc x.symm)] at e
      rcases hget c' o2 k' with ⟨rfl, rfl⟩ | ⟨hc', hcb', k'⟩
      · rw [Env.put_self] at e'
        simp at e'; subst e'
        exact absurd (h.inj b c _ _ p q hb k hp e hq.symm) (fun x => hcb x.symm)
      · unfold Env.put at e'
        rw [if_neg (fun x => hc' x.symm)] at e'
        exact h.inj c c' o1 o2 q q' k k' e e' hq

/-- New cells. -/
theorem MR.newCells (h : MR ν B w0 E M w) (K : Blk) (cs : Array Value) (t : TypeId) (hm : K.m ≤ cs.size) (hg : ∀ i v, K.get i = some v → ∃ x, cs[i]? = some x ∧ V ν E v x) :
    MR ν B w0 (E.put M.k (w.heap.size, 0, cs.size)) (M.new (.cells K)) (w.alloc (.cells cs t)) := by
  refine h.new _ _ _ ⟨cs, t, (0, 0), heap_alloc_new w _, by simp, hm, .inl rfl, fun i v hv => ?_⟩
  obtain ⟨x, hx, hV⟩ := hg i v hv
  exact ⟨x, by simpa using hx, V.mono (h.le_put _) _ _ hV⟩
theorem MR.newList (h : MR ν B w0 E M w) {l : List AV} {xs : List Value} (hl : VL ν E l xs) (t : TypeId) :
    MR ν B w0 (E.put M.k (w.heap.size, 0, xs.length)) (M.new (.cells (Blk.ofList l))) (w.alloc (.cells xs.toArray t)) := by
  have := h.newCells (Blk.ofList l) xs.toArray t (by simp [Blk.ofList, hl.length]) (fun i v hv => by
    rw [Blk.get_ofList] at hv
    simpa using hl.get hv)
  simpa using this
end

end Go.Proofs.YtnidkdjapieinaaDoor.Ev
