/- Equality of the little machine's states; one operation of a region as it stands in the model. No program is walked here. -/
import Derived.Test.YtnidkdjapieinaaDoorEvL
noncomputable section
namespace Go.Proofs.YtnidkdjapieinaaDoor.Ev
open Go.RowKit
set_option linter.unusedSimpArgs false
set_option linter.unusedVariables false

/-! ### equality -/
mutual
def AV.beq : AV → AV → Bool
  | .bool a, .bool b => a == b
  | .int k a, .int j b => match decide (k = j) with
    | true => intBeq a b
    | false => false
  | .str a, .str b => natsEq a b
  | .ptr a b, .ptr c d => match Nat.beq a c with
    | true => Nat.beq b d
    | false => false
  | .nptr, .nptr => true
  | .slice a b c d, .slice e f g h => match Nat.beq a e, Nat.beq b f, Nat.beq c g with
    | true, true, true => Nat.beq d h
    | _, _, _ => false
  | .slic a b c d, .slic e f g h => match Nat.beq a e, Nat.beq b f, Nat.beq c g with
    | true, true, true => Nat.beq d h
    | _, _, _ => false
  | .nslice, .nslice => true
  | .emp, .emp => true
  | .map a, .map b => Nat.beq a b
  | .nmap, .nmap => true
  | .fn f a b, .fn g c d => match Nat.beq f g with
    | true => AV.beqs a c && AV.beqs b d
    | false => false
  | .nfn, .nfn => true
  | .iface s a, .iface u b => match Nat.beq s u with
    | true => AV.beq a b
    | false => false
  | .niface, .niface => true
  | .agg a, .agg b => AV.beqs a b
  | .tup a, .tup b => AV.beqs a b
  | .opq a, .opq b => Nat.beq a b
  | _, _ => false
def AV.beqs : List AV → List AV → Bool
  | [], [] => true
  | a :: as, b :: bs => match AV.beq a b with
    | true => AV.beqs as bs
    | false => false
  | _, _ => false
end
mutual
theorem AV.eq_of_beq : ∀ (a b : AV), AV.beq a b = true → a = b
  | .bool a, b, h => by cases b <;> simp only [AV.beq] at h <;> first | (cases h; done) | (rw [beq_iff_eq] at h; rw [h])
  | .int k a, b, h => by
    cases b <;> simp only [AV.beq] at h <;> first | (cases h; done) | skip
    split at h
    · rename_i hk
      rw [intBeq_eq, beq_iff_eq] at h
      rw [of_decide_eq_true hk, h]
    · cases h
  | .str a, b, h => by cases b <;> simp only [AV.beq] at h <;> first | (cases h; done) | (rw [natsEq_iff.1 h])
  | .ptr a c, b, h => by
    cases b <;> simp only [AV.beq] at h <;> first | (cases h; done) | skip
    split at h
    · rename_i hk; rw [Nat.eq_of_beq_eq_true hk, Nat.eq_of_beq_eq_true h]
    · cases h
  | .nptr, b, h => by cases b <;> simp only [AV.beq] at h <;> first | rfl | (cases h; done)
  | .slice a b c d, e, h => by
    cases e <;> simp only [AV.beq] at h <;> first | (cases h; done) | skip
    split at h
    · rename_i h1 h2 h3; rw [Nat.eq_of_beq_eq_true h1, Nat.eq_of_beq_eq_true h2, Nat.eq_of_beq_eq_true h3, Nat.eq_of_beq_eq_true h]
    · cases h
  | .slic a b c d, e, h => by
    cases e <;> simp only [AV.beq] at h <;> first | (cases h; done) | skip
    split at h
    · rename_i h1 h2 h3; rw [Nat.eq_of_beq_eq_true h1, Nat.eq_of_beq_eq_true h2, Nat.eq_of_beq_eq_true h3, Nat.eq_of_beq_eq_true h]
    · cases h
  | .nslice, b, h => by cases b <;> simp only [AV.beq] at h <;> first | rfl | (cases h; done)
  | .emp, b, h => by cases b <;> simp only [AV.beq] at h <;> first | rfl | (cases h; done)
  | .map a, b, h => by cases b <;> simp only [AV.beq] at h <;> first | (cases h; done) | (rw [Nat.eq_of_beq_eq_true h])
  | .nmap, b, h => by cases b <;> simp only [AV.beq] at h <;> first | rfl | (cases h; done)
  | .fn f a c, b, h => by
    cases b <;> simp only [AV.beq] at h <;> first | (cases h; done) | skip
    split at h
    · rename_i hk
      rw [Bool.and_eq_true] at h
      rw [Nat.eq_of_beq_eq_true hk, AV.eq_of_beqs _ _ h.1, AV.eq_of_beqs _ _ h.2]
    · cases h
  | .nfn, b, h => by cases b <;> simp only [AV.beq] at h <;> first | rfl | (cases h; done)
  | .iface s a, b, h => by
    cases b <;> simp only [AV.beq] at h <;> first | (cases h; done) | skip
    split at h
    · rename_i hk; rw [Nat.eq_of_beq_eq_true hk, AV.eq_of_beq _ _ h]
    · cases h
  | .niface, b, h => by cases b <;> simp only [AV.beq] at h <;> first | rfl | (cases h; done)
  | .agg a, b, h => by cases b <;> simp only [AV.beq] at h <;> first | (cases h; done) | (rw [AV.eq_of_beqs _ _ h])
  | .tup a, b, h => by cases b <;> simp only [AV.beq] at h <;> first | (cases h; done) | (rw [AV.eq_of_beqs _ _ h])
  | .opq a, b, h => by cases b <;> simp only [AV.beq] at h <;> first | (cases h; done) | (rw [Nat.eq_of_beq_eq_true h])
theorem AV.eq_of_beqs : ∀ (a b : List AV), AV.beqs a b = true → a = b
  | [], b, h => by cases b <;> simp only [AV.beqs] at h <;> first | rfl | (cases h; done)
  | a :: as, b, h => by
    cases b <;> simp only [AV.beqs] at h <;> first | (cases h; done) | skip
    split at h
    · rename_i hk; rw [AV.eq_of_beq _ _ hk, AV.eq_of_beqs _ _ h]
    · cases h
end
def optEq {α : Type} (eq : α → α → Bool) (a b : Option α) : Bool :=
  Option.rec (motive := fun _ => Bool) (Option.rec (motive := fun _ => Bool) true (fun _ => false) b) (fun x => Option.rec (motive := fun _ => Bool) false (fun y => eq x y) b) a
theorem optEq_eq {α : Type} {eq : α → α → Bool} (he : ∀ a b, eq a b = true → a = b) {a b : Option α} (h : optEq eq a b = true) : a = b := by
  cases a <;> cases b <;> simp only [optEq] at h <;> first | rfl | (cases h; done) | (rw [he _ _ h])
def T.beq {α : Type} (eq : α → α → Bool) (s t : T α) : Bool :=
  T.rec (motive := fun _ => T α → Bool) (fun t => T.rec (motive := fun _ => Bool) true (fun _ _ _ _ _ => false) t)
    (fun v _ _ bl br t => T.rec (motive := fun _ => Bool) false (fun v' l' r' _ _ => Bool.rec (motive := fun _ => Bool) false (Bool.rec (motive := fun _ => Bool) false (br r') (bl l')) (optEq eq v v')) t) s t
theorem T.eq_of_beq {α : Type} {eq : α → α → Bool} (he : ∀ a b, eq a b = true → a = b) : ∀ {s t : T α}, T.beq eq s t = true → s = t
  | .nil, t, h => by cases t with
    | nil => rfl
    | node v l r => exact absurd (show false = true from h) (by simp)
  | .node v l r, t, h => by
    cases t with
    | nil => exact absurd (show false = true from h) (by simp)
    | node v' l' r' =>
      have h' : Bool.rec (motive := fun _ => Bool) false (Bool.rec (motive := fun _ => Bool) false (T.beq eq r r') (T.beq eq l l')) (optEq eq v v') = true := h
      cases e1 : optEq eq v v' with
      | false => rw [e1] at h'; cases h'
      | true =>
        rw [e1] at h'
        cases e2 : T.beq eq l l' with
        | false => rw [e2] at h'; cases h'
        | true =>
          rw [e2] at h'
          rw [optEq_eq he e1, T.eq_of_beq he e2, T.eq_of_beq he h']
def entEq : List (AV × AV × Nat) → List (AV × AV × Nat) → Bool
  | [], [] => true
  | a :: as, b :: bs => match AV.beq a.1 b.1, AV.beq a.2.1 b.2.1, Nat.beq a.2.2 b.2.2 with
    | true, true, true => entEq as bs
    | _, _, _ => false
  | _, _ => false
theorem entEq_eq : ∀ {a b : List (AV × AV × Nat)}, entEq a b = true → a = b
  | [], b, h => by cases b <;> simp only [entEq] at h <;> first | rfl | (cases h; done)
  | a :: as, b, h => by
    cases b with
    | nil => simp only [entEq] at h; cases h
    | cons b bs =>
    simp only [entEq] at h
    split at h
    · rename_i h1 h2 h3
      have e1 := AV.eq_of_beq _ _ h1
      have e2 := AV.eq_of_beq _ _ h2
      have e3 := Nat.eq_of_beq_eq_true h3
      rw [entEq_eq h]
      obtain ⟨a1, a2, a3⟩ := a
      obtain ⟨b1, b2, b3⟩ := b
      simp only at e1 e2 e3
      rw [e1, e2, e3]
    · cases h
def pairEq : List (AV × AV) → List (AV × AV) → Bool
  | [], [] => true
  | a :: as, b :: bs => match AV.beq a.1 b.1, AV.beq a.2 b.2 with
    | true, true => pairEq as bs
    | _, _ => false
  | _, _ => false
theorem pairEq_eq : ∀ {a b : List (AV × AV)}, pairEq a b = true → a = b
  | [], b, h => by cases b <;> simp only [pairEq] at h <;> first | rfl | (cases h; done)
  | a :: as, b, h => by
    cases b with
    | nil => simp only [pairEq] at h; cases h
    | cons b bs =>
    simp only [pairEq] at h
    split at h
    · rename_i h1 h2
      have e1 := AV.eq_of_beq _ _ h1
      have e2 := AV.eq_of_beq _ _ h2
      rw [pairEq_eq h]
      obtain ⟨a1, a2⟩ := a
      obtain ⟨b1, b2⟩ := b
      simp only at e1 e2
      rw [e1, e2]
    · cases h
def AObj.beq : AObj → AObj → Bool
  | .cells a, .cells b => match Nat.beq a.m b.m, Nat.beq a.z b.z with
    | true, true => match T.beq AV.beq a.u b.u with
      | true => AV.beqs a.base b.base
      | false => false
    | _, _ => false
  | .map a c, .map b d => match Nat.beq c d with
    | true => entEq a b
    | false => false
  | .miter a b c d, .miter e f g h => match optEq Nat.beq a e, Nat.beq b f, natsEq c g with
    | true, true, true => Nat.beq d h
    | _, _, _ => false
  | .siter a b, .siter c d => match natsEq a c with
    | true => Nat.beq b d
    | false => false
  | .umap a, .umap b => pairEq a b
  | _, _ => false
theorem AObj.eq_of_beq : ∀ (a b : AObj), AObj.beq a b = true → a = b
  | .cells a, b, h => by
    cases b <;> simp only [AObj.beq] at h <;> first | (cases h; done) | skip
    rename_i b
    split at h
    · rename_i h1 h2
      split at h
      · rename_i h3
        obtain ⟨a1, a2, a3, a4⟩ := a
        obtain ⟨b1, b2, b3, b4⟩ := b
        simp only at h1 h2 h3 h
        rw [Nat.eq_of_beq_eq_true h1, Nat.eq_of_beq_eq_true h2, T.eq_of_beq AV.eq_of_beq h3, AV.eq_of_beqs _ _ h]
      · cases h
    · cases h
  | .map a c, b, h => by
    cases b <;> simp only [AObj.beq] at h <;> first | (cases h; done) | skip
    split at h
    · rename_i h1; rw [Nat.eq_of_beq_eq_true h1, entEq_eq h]
    · cases h
  | .miter a b c d, e, h => by
    cases e <;> simp only [AObj.beq] at h <;> first | (cases h; done) | skip
    split at h
    · rename_i h1 h2 h3
      rw [optEq_eq (fun a b => Nat.eq_of_beq_eq_true) h1, Nat.eq_of_beq_eq_true h2, natsEq_iff.1 h3, Nat.eq_of_beq_eq_true h]
    · cases h
  | .siter a b, e, h => by
    cases e <;> simp only [AObj.beq] at h <;> first | (cases h; done) | skip
    split at h
    · rename_i h1; rw [natsEq_iff.1 h1, Nat.eq_of_beq_eq_true h]
    · cases h
  | .umap a, e, h => by
    cases e <;> simp only [AObj.beq] at h <;> first | (cases h; done) | (rw [pairEq_eq h])
def Mem.beq (a b : Mem) : Bool := match Nat.beq a.n b.n, Nat.beq a.k b.k with
  | true, true => T.beq (optEq AObj.beq) a.h b.h
  | _, _ => false
theorem Mem.eq_of_beq (a b : Mem) (h : Mem.beq a b = true) : a = b := by
  obtain ⟨a1, a2, a3⟩ := a
  obtain ⟨b1, b2, b3⟩ := b
  simp only [Mem.beq] at h
  split at h
  · rename_i h1 h2
    rw [Nat.eq_of_beq_eq_true h1, Nat.eq_of_beq_eq_true h2, T.eq_of_beq (fun _ _ => optEq_eq AObj.eq_of_beq) h]
  · cases h

/-! ### states -/
structure St where
  t : T AV
  s : Nat
  m : Mem
def St.beq (a b : St) : Bool := match Nat.beq a.s b.s with
  | true => match T.beq AV.beq a.t b.t with
    | true => Mem.beq a.m b.m
    | false => false
  | false => false
theorem St.eq_of_beq (a b : St) (h : St.beq a b = true) : a = b := by
  obtain ⟨a1, a2, a3⟩ := a
  obtain ⟨b1, b2, b3⟩ := b
  simp only [St.beq] at h
  split at h
  · rename_i h1
    split at h
    · rename_i h2
      rw [Nat.eq_of_beq_eq_true h1, T.eq_of_beq AV.eq_of_beq h2, Mem.eq_of_beq _ _ h]
    · cases h
  · cases h

section
variable {P : Program} {Φ : Facts}
variable {ν : Nat → Value} [FactsOk P ν Φ] {B : Zone} {w0 w : World} {E : Env} {M : Mem}
variable {a : Act}

structure SR (ν : Nat → Value) (B : Zone) (w0 : World) (E : Env) (st : St) (a : Act) (w : World) : Prop where
  tm : TR ν E st.t a
  sz : a.tmps.size = st.s
  df : a.defers = []
  mr : MR ν B w0 E st.m w
  kn : st.m.k = st.m.n

def setV (f : Nat) (t : T AV) (i : Nat) (x : AV) : T AV :=
  T.rec (motive := fun _ => Nat → Nat → AV → T AV) (fun f i x => T.single x f i)
    (fun v l r sl sr f i x => Nat.rec (motive := fun _ => T AV) (.node (some x) l r) (fun i _ => Bool.rec (motive := fun _ => T AV) (.node v l (sr f (Nat.div i 2) x)) (.node v (sl f (Nat.div i 2) x) r) (Nat.beq (Nat.mod i 2) 0)) i) t f i x
theorem setV_eq (f : Nat) : ∀ (t : T AV) (i : Nat) (x : AV), setV f t i x = T.set f t i x
  | .nil, i, x => rfl
  | .node v l r, 0, x => rfl
  | .node v l r, i + 1, x => by
    rw [T.set_node]
    show Bool.rec (motive := fun _ => T AV) (.node v l (setV f r (i / 2) x)) (.node v (setV f l (i / 2) x) r) (Nat.beq (i % 2) 0) = _
    rw [setV_eq f l, setV_eq f r]
    by_cases h : i % 2 = 0
    · rw [if_pos h, h]; rfl
    · have : Nat.beq (i % 2) 0 = false := by cases e : Nat.beq (i % 2) 0 with | true => exact absurd (Nat.eq_of_beq_eq_true e) h | false => rfl
      rw [if_neg h, this]
def St.put (st : St) (dst : Option Nat) (v : AV) (M : Mem) : Option St :=
  St.rec (motive := fun _ => Option St) (fun t s _ => Option.rec (motive := fun _ => Option St) (some ⟨t, s, M⟩) (fun d => Bool.rec (motive := fun _ => Option St) none (some ⟨setV (Nat.succ d) t d v, s, M⟩) (Nat.blt d s)) dst) st
theorem St.put_eq (t : T AV) (s : Nat) (m : Mem) (dst : Option Nat) (v : AV) (M : Mem) : St.put ⟨t, s, m⟩ dst v M = (match dst with
    | none => some ⟨t, s, M⟩
    | some d => match Nat.blt d s with
      | true => some ⟨T.set (d + 1) t d v, s, M⟩
      | false => none) := by
  cases dst with
  | none => rfl
  | some d =>
    show Bool.rec (motive := fun _ => Option St) none (some ⟨setV (d + 1) t d v, s, M⟩) (Nat.blt d s) = (match Nat.blt d s with
      | true => some ⟨T.set (d + 1) t d v, s, M⟩
      | false => none)
    rw [setV_eq]
    cases Nat.blt d s <;> rfl
theorem TR.put {t : T AV} (h : TR ν E t a) {d : Nat} (hd : d < a.tmps.size) {v : AV} {x : Value} (hv : V ν E v x) : TR ν E (T.set (d + 1) t d v) (a.put (some d) x) := by
  intro i u hu
  rw [T.get_set _ _ _ _ _ (Nat.lt_succ_self d)] at hu
  simp only [Act.put]
  split at hu
  · rename_i e
    subst e
    simp only [Option.some.injEq] at hu; subst hu
    exact ⟨x, Array.getElem?_setIfInBounds_self_of_lt hd, hv⟩
  · rename_i e
    obtain ⟨y, h1, h2⟩ := h i u hu
    exact ⟨y, by rw [Array.getElem?_setIfInBounds_ne e]; exact h1, h2⟩
theorem SR.put {E' : Env} {st st' : St} (h : SR ν B w0 E st a w) (hE : E.le E') {dst : Option Nat} {v : AV} {x : Value} (hv : V ν E' v x) {M' : Mem} {w' : World} (hM : MR ν B w0 E' M' w') (hk : M'.k = M'.n) (hp : st.put dst v M' = some st') :
    SR ν B w0 E' st' (a.put dst x) w' := by
  obtain ⟨t, s, m⟩ := st
  rw [St.put_eq] at hp
  split at hp
  · simp only [Option.some.injEq] at hp; subst hp
    exact ⟨h.tm.mono hE, h.sz, h.df, hM, hk⟩
  · rename_i d
    split at hp
    case h_2 => cases hp
    rename_i hd
    have hd := blt_iff.1 hd
    simp only [Option.some.injEq] at hp; subst hp
    exact ⟨(h.tm.mono hE).put (by rw [h.sz]; exact hd) hv, by simp [Act.put, h.sz], h.df, hM, hk⟩
theorem St.put_m {st s : St} {dst : Option Nat} {v : AV} {M' : Mem} (hp : st.put dst v M' = some s) : s.m = M' := by
  obtain ⟨t, s', m⟩ := st
  rw [St.put_eq] at hp
  split at hp
  · simp only [Option.some.injEq] at hp; subst hp; rfl
  · split at hp
    · simp only [Option.some.injEq] at hp; subst hp; rfl
    · cases hp
theorem V.undef {E : Env} : V ν E (.tup []) undef := by
  show V ν E (.tup []) (.tuple #[])
  simp only [V]; exact ⟨#[], rfl, by simp only [VL]⟩

/-- The number that was set aside goes back. -/
def Mem.unset : Mem → Mem
  | ⟨h, n, _⟩ => ⟨h, n, n⟩
def Mem.aside : Mem → Nat → Mem
  | ⟨h, n, _⟩, k => ⟨h, n, k⟩
/-- An element of a list. -/
def nth {α : Type} (l : List α) : Nat → Option α :=
  List.rec (motive := fun _ => Nat → Option α) (fun _ => none) (fun a _ r i => Nat.rec (motive := fun _ => Option α) (some a) (fun i _ => r i) i) l
theorem nth_eq {α : Type} : ∀ (l : List α) (i : Nat), nth l i = l[i]?
  | [], i => rfl
  | a :: l, 0 => rfl
  | a :: l, i + 1 => (nth_eq l i).trans (by simp)
def boolEq : Bool → Bool → Bool
  | true, b => b
  | false, true => false
  | false, false => true
theorem boolEq_eq (a b : Bool) : boolEq a b = (a == b) := by cases a <;> cases b <;> rfl
theorem MR.unset (h : MR ν B w0 E M w) : MR ν B w0 E M.unset w := h.congr (fun _ _ k => k) (Nat.le_refl _) (by
  cases e : E M.unset.k with
  | none => rfl
  | some p => have := h.dom _ p e; exact absurd this (Nat.lt_irrefl _))
theorem MR.aside (h : MR ν B w0 E M w) {k : Nat} (hk : E k = none) : MR ν B w0 E (M.aside k) w := h.congr (fun _ _ k => k) (Nat.le_refl _) hk

def awantedOn (ops : List Oper) (t : T AV) (j : Nat) (want : Bool) : Option Bool :=
  match nth ops j with
  | some oj => match oj.dst with
    | some d => Option.rec (motive := fun _ => Option Bool) none (fun v => Option.rec (motive := fun _ => Option Bool) none (fun q => Option.rec (motive := fun _ => Option Bool) (some false) (fun b => some (boolEq b want)) q) v.asTruth) (getV t d)
    | none => none
  | none => none
theorem truth_eq (t : T AV) (d : Nat) (want : Bool) : Option.rec (motive := fun _ => Option Bool) none (fun v : AV => Option.rec (motive := fun _ => Option Bool) none (fun q => Option.rec (motive := fun _ => Option Bool) (some false) (fun b => some (boolEq b want)) q) v.asTruth) (getV t d) = (match t.get d with
      | some (.bool b) => some (boolEq b want)
      | some (.tup _) => some false
      | _ => none) := by
  rw [getV_eq]
  cases t.get d with
  | none => rfl
  | some v => cases v <;> rfl
def awanted (ops : List Oper) (t : T AV) (o : Oper) : Option Bool :=
  Option.rec (motive := fun _ => Option Bool) (some true) (fun g => awantedOn ops t g.1 g.2) o.guard
theorem awanted_eq (ops : List Oper) (t : T AV) (o : Oper) : awanted ops t o = (match o.guard with
    | none => some true
    | some (j, want) => awantedOn ops t j want) := by
  unfold awanted
  cases o.guard <;> rfl
theorem awanted_ok {ops : Array Oper} {t : T AV} (h : TR ν E t a) {o : Oper} {b : Bool} (hb : awanted ops.toList t o = some b) : Region.wanted o (yielded ops a.tmps) = b := by
  rw [awanted_eq] at hb
  unfold Region.wanted
  split at hb
  · rename_i hg
    rw [hg]
    simp only [Option.some.injEq] at hb; exact hb
  · rename_i j want hg
    rw [hg]
    unfold awantedOn at hb
    split at hb
    case h_2 => cases hb
    rename_i oj hj
    have hj' : ops[j]? = some oj := by rw [← Array.getElem?_toList, ← nth_eq]; exact hj
    split at hb
    case h_2 => cases hb
    rename_i d hd
    rw [truth_eq] at hb
    split at hb
    · rename_i c hc
      obtain ⟨x, h1, h2⟩ := h d _ hc
      have := h2.bool_inv
      subst this
      simp only [Option.some.injEq] at hb; subst hb
      simp only [yielded, hj', Option.bind_some, hd, h1]
      cases c <;> cases want <;> rfl
    · rename_i l hc
      obtain ⟨x, h1, h2⟩ := h d _ hc
      obtain ⟨as, rfl, _⟩ := h2.tup_inv
      simp only [Option.some.injEq] at hb; subst hb
      simp only [yielded, hj', Option.bind_some, hd, h1]
      cases want <;> rfl
    · cases hb

/-- What calls do: each answer with its memory. -/
abbrev CF := FuncId → List AV → Mem → Option (List (AV × Mem))
/-- Older numbers stand where they stood. -/
def Late (n : Nat) (E : Env) (n' : Nat) (E' : Env) : Prop := n ≤ n' ∧ E.le E' ∧ ∀ b, b < n → E' b = E b
theorem Late.refl (n : Nat) (E : Env) : Late n E n E := ⟨Nat.le_refl _, Env.le_refl _, fun _ _ => rfl⟩
theorem Late.trans {n1 n2 n3 : Nat} {E1 E2 E3 : Env} (h : Late n1 E1 n2 E2) (k : Late n2 E2 n3 E3) : Late n1 E1 n3 E3 :=
  ⟨Nat.le_trans h.1 k.1, Env.le_trans h.2.1 k.2.1, fun b hb => (k.2.2 b (Nat.lt_of_lt_of_le hb h.1)).trans (h.2.2 b hb)⟩
def CFok (P : Program) (cf : CF) (ν : Nat → Value) : Prop :=
  ∀ (B : Zone) (w0 : World) f args M outs, cf f args M = some outs → M.k = M.n → ∀ E xs w, VL ν E args xs.toList → MR ν B w0 E M w →
    Calls P f xs w fun e w' => ∃ r ∈ outs, ∃ E' x, Late M.n E r.2.n E' ∧ e = .returned x ∧ V ν E' r.1 x ∧ MR ν B w0 E' r.2 w' ∧ r.2.k = r.2.n

/-- Many memories to come back to. -/
def putAll (st : St) (dst : Option Nat) : List (AV × Mem) → Option (List St)
  | [] => some []
  | (v, M) :: rs => match Nat.ble st.m.n M.n with
    | false => none
    | true => match st.put dst v M.unset with
      | none => none
      | some s => match putAll st dst rs with
        | none => none
        | some l => some (s :: l)
def finish (cf : CF) (st : St) (dst : Option Nat) : List (AN × Mem) → Option (List St)
  | [] => some []
  | (.val v, M) :: rs => match putAll st dst [(v, M)] with
    | none => none
    | some l => match finish cf st dst rs with
      | none => none
      | some l' => some (l ++ l')
  | (.skip, M) :: rs => match putAll st dst [(.tup [], M)] with
    | none => none
    | some l => match finish cf st dst rs with
      | none => none
      | some l' => some (l ++ l')
  | (.call f args, M) :: rs => match (match Nat.ble st.m.n M.n with | true => cf f args M.unset | false => none) with
    | none => none
    | some outs => match putAll st dst outs with
      | none => none
      | some l => match finish cf st dst rs with
        | none => none
        | some l' => some (l ++ l')
section
variable (P) (Φ)
/-- One operation, its new block under number k. -/
def putOne (s : Option St) : Option (List St) := Option.rec (motive := fun _ => Option (List St)) none (fun s => some [s]) s
def stepMem (cf : CF) (st : St) (k : Nat) (o : Oper) : Option (List St) :=
  Option.rec (motive := fun _ => Option (List St)) none (fun l => finish cf st o.dst l) (amem P st.t (st.m.aside k) o)
def stepNow (cf : CF) (st : St) (k : Nat) (o : Oper) : Option (List St) :=
  Option.rec (motive := fun _ => Option (List St)) (stepMem P cf st k o) (fun v => putOne (st.put o.dst v st.m)) (apure P Φ st.t o)
def stepOp (cf : CF) (ops : List Oper) (st : St) (k : Nat) (o : Oper) : Option (List St) :=
  Option.rec (motive := fun _ => Option (List St)) none (fun b => Bool.rec (motive := fun _ => Option (List St)) (putOne (st.put o.dst (.tup []) st.m)) (stepNow P Φ cf st k o) b) (awanted ops st.t o)
theorem stepOp_eq (cf : CF) (ops : List Oper) (st : St) (k : Nat) (o : Oper) : stepOp P Φ cf ops st k o = (match awanted ops st.t o with
  | none => none
  | some false => match st.put o.dst (.tup []) st.m with
    | some s => some [s]
    | none => none
  | some true => match apure P Φ st.t o with
    | some v => match st.put o.dst v st.m with
      | some s => some [s]
      | none => none
    | none => match amem P st.t (st.m.aside k) o with
      | none => none
      | some l => finish cf st o.dst l) := by
  unfold stepOp
  cases awanted ops st.t o with
  | none => rfl
  | some b => cases b with
    | false =>
      show putOne (st.put o.dst (.tup []) st.m) = (match st.put o.dst (.tup []) st.m with
        | some s => some [s]
        | none => none)
      cases st.put o.dst (.tup []) st.m <;> rfl
    | true =>
      show stepNow P Φ cf st k o = (match apure P Φ st.t o with
        | some v => match st.put o.dst v st.m with
          | some s => some [s]
          | none => none
        | none => match amem P st.t (st.m.aside k) o with
          | none => none
          | some l => finish cf st o.dst l)
      unfold stepNow
      cases apure P Φ st.t o with
      | some v =>
        show putOne (st.put o.dst v st.m) = (match st.put o.dst v st.m with
          | some s => some [s]
          | none => none)
        cases st.put o.dst v st.m <;> rfl
      | none =>
        show stepMem P cf st k o = (match amem P st.t (st.m.aside k) o with
          | none => none
          | some l => finish cf st o.dst l)
        unfold stepMem
        cases amem P st.t (st.m.aside k) o <;> rfl
end
theorem putAll_mem {st : St} {dst : Option Nat} : ∀ {l : List (AV × Mem)} {outs : List St}, putAll st dst l = some outs → ∀ r ∈ l, ∃ s ∈ outs, st.m.n ≤ r.2.n ∧ st.put dst r.1 r.2.unset = some s
  | [], outs, h, r, hr => by cases hr
  | q :: qs, outs, h, r, hr => by
    simp only [putAll] at h
    split at h
    · cases h
    rename_i hn
    split at h
    · cases h
    rename_i s hs
    split at h
    · cases h
    rename_i l hl
    simp only [Option.some.injEq] at h; subst h
    rcases List.mem_cons.1 hr with rfl | hr
    · exact ⟨s, by simp, Nat.le_of_ble_eq_true hn, hs⟩
    · obtain ⟨s', h1, h2⟩ := putAll_mem hl r hr
      exact ⟨s', by simp [h1], h2⟩
theorem finish_mem {cf : CF} {st : St} {dst : Option Nat} : ∀ {l : List (AN × Mem)} {outs : List St}, finish cf st dst l = some outs → ∀ r ∈ l,
    match r.1 with
    | .val v => ∃ s ∈ outs, st.m.n ≤ r.2.n ∧ st.put dst v r.2.unset = some s
    | .skip => ∃ s ∈ outs, st.m.n ≤ r.2.n ∧ st.put dst (.tup []) r.2.unset = some s
    | .call f args => ∃ o, st.m.n ≤ r.2.n ∧ cf f args r.2.unset = some o ∧ ∀ q ∈ o, ∃ s ∈ outs, st.m.n ≤ q.2.n ∧ st.put dst q.1 q.2.unset = some s
  | [], outs, h, r, hr => by cases hr
  | (.val v, M) :: rs, outs, h, r, hr => by
    simp only [finish] at h
    split at h
    · cases h
    rename_i l1 h1
    split at h
    · cases h
    rename_i l2 h2
    simp only [Option.some.injEq] at h; subst h
    rcases List.mem_cons.1 hr with rfl | hr
    · simp only
      obtain ⟨s, g1, g2⟩ := putAll_mem h1 (v, M) (by simp)
      exact ⟨s, by simp [g1], g2⟩
    · have := finish_mem h2 r hr
      obtain ⟨x, Mx⟩ := r
      cases x with
      | val v => obtain ⟨s, g1, g2⟩ := this; exact ⟨s, by simp [g1], g2⟩
      | skip => obtain ⟨s, g1, g2⟩ := this; exact ⟨s, by simp [g1], g2⟩
      | call f args => obtain ⟨o, g0, g1, g2⟩ := this; exact ⟨o, g0, g1, fun q hq => let ⟨s, k1, k2⟩ := g2 q hq; ⟨s, by simp [k1], k2⟩⟩
  | (.skip, M) :: rs, outs, h, r, hr => by
    simp only [finish] at h
    split at h
    · cases h
    rename_i l1 h1
    split at h
    · cases h
    rename_i l2 h2
    simp only [Option.some.injEq] at h; subst h
    rcases List.mem_cons.1 hr with rfl | hr
    · simp only
      obtain ⟨s, g1, g2⟩ := putAll_mem h1 (.tup [], M) (by simp)
      exact ⟨s, by simp [g1], g2⟩
    · have := finish_mem h2 r hr
      obtain ⟨x, Mx⟩ := r
      cases x with
      | val v => obtain ⟨s, g1, g2⟩ := this; exact ⟨s, by simp [g1], g2⟩
      | skip => obtain ⟨s, g1, g2⟩ := this; exact ⟨s, by simp [g1], g2⟩
      | call f args => obtain ⟨o, g0, g1, g2⟩ := this; exact ⟨o, g0, g1, fun q hq => let ⟨s, k1, k2⟩ := g2 q hq; ⟨s, by simp [k1], k2⟩⟩
  | (.call f args, M) :: rs, outs, h, r, hr => by
    simp only [finish] at h
    split at h
    · cases h
    rename_i o ho
    split at h
    · cases h
    rename_i l1 h1
    split at h
    · cases h
    rename_i l2 h2
    simp only [Option.some.injEq] at h; subst h
    rcases List.mem_cons.1 hr with rfl | hr
    · simp only
      split at ho
      case h_2 => cases ho
      rename_i hn
      refine ⟨o, Nat.le_of_ble_eq_true hn, ho, fun q hq => ?_⟩
      obtain ⟨s, g1, g2⟩ := putAll_mem h1 q hq
      exact ⟨s, by simp [g1], g2⟩
    · have := finish_mem h2 r hr
      obtain ⟨x, Mx⟩ := r
      cases x with
      | val v => obtain ⟨s, g1, g2⟩ := this; exact ⟨s, by simp [g1], g2⟩
      | skip => obtain ⟨s, g1, g2⟩ := this; exact ⟨s, by simp [g1], g2⟩
      | call f args => obtain ⟨o, g0, g1, g2⟩ := this; exact ⟨o, g0, g1, fun q hq => let ⟨s, k1, k2⟩ := g2 q hq; ⟨s, by simp [k1], k2⟩⟩

/-- One operation in the model. (E' may bear k besides numbers from n on.) -/
theorem stepOp_ok {cf : CF} (hcf : CFok P cf ν) {ops : Array Oper} {st : St} (h : SR ν B w0 E st a w) {k : Nat} (hk : E k = none) {i : Nat} {o : Oper} (hi : ops[i]? = some o) {outs : List St} (hs : stepOp P Φ cf ops.toList st k o = some outs)
    {Q : Exit → Act → World → Prop} {K : Act → World → Prop}
    (hK : ∀ st' ∈ outs, ∀ E' a' w', st.m.n ≤ st'.m.n → E.le E' → (∀ b, b < st.m.n → b ≠ k → E' b = E b) → SR ν B w0 E' st' a' w' → (∃ x, a' = a.put o.dst x) → K a' w') : wpOp P ops Q i K a w := by
  rw [stepOp_eq] at hs
  unfold wpOp
  simp only [hi]
  split at hs
  · cases hs
  · rename_i hw
    rw [awanted_ok h.tm hw]
    split at hs
    case h_2 => cases hs
    rename_i s hp
    simp only [Option.some.injEq] at hs; subst hs
    simp only [Bool.false_eq_true, if_false]
    have hn : s.m = st.m := St.put_m hp
    exact hK s (by simp) E _ w (by rw [hn]; exact Nat.le_refl _) (Env.le_refl E) (fun _ _ _ => rfl) (h.put (Env.le_refl E) V.undef h.mr h.kn hp) ⟨_, rfl⟩
  · rename_i hw
    rw [awanted_ok h.tm hw]
    simp only [if_true]
    refine .inl ?_
    unfold Oper.wp
    split at hs
    · rename_i v hv
      obtain ⟨x, h1, h2⟩ := apure_ok h.tm hv
      split at hs
      case h_2 => cases hs
      rename_i s hp
      simp only [Option.some.injEq] at hs; subst hs
      have hn : s.m = st.m := St.put_m hp
      rw [h1 w, Oper.upon_value]
      exact hK s (by simp) E _ w (by rw [hn]; exact Nat.le_refl _) (Env.le_refl E) (fun _ _ _ => rfl) (h.put (Env.le_refl E) h2 h.mr h.kn hp) ⟨_, rfl⟩
    · split at hs
      · cases hs
      rename_i l hl
      obtain ⟨r, hr, E', n, w', g1, g2, g3, g4⟩ := amem_ok (h.mr.aside hk) h.tm hl
      have hfin := finish_mem hs r hr
      have ext : ∀ b, b < st.m.n → b ≠ k → E' b = E b := g1.2
      have pn : ∀ {s : St} {v : AV} {M' : Mem}, st.put o.dst v M' = some s → s.m = M' := fun hp => St.put_m hp
      rw [g2]
      obtain ⟨x, M'⟩ := r
      cases x with
      | val v =>
        obtain ⟨y, rfl, hy⟩ := g3
        obtain ⟨s, k1, k2, k3⟩ := hfin
        rw [Oper.upon_value]
        exact hK s k1 E' _ w' (by rw [pn k3]; exact k2) g1.1 ext (h.put g1.1 hy g4.unset rfl k3) ⟨_, rfl⟩
      | skip =>
        simp only [NV] at g3
        subst g3
        obtain ⟨s, k1, k2, k3⟩ := hfin
        rw [Oper.upon_skip]
        exact hK s k1 E' _ w' (by rw [pn k3]; exact k2) g1.1 ext (h.put g1.1 V.undef g4.unset rfl k3) ⟨_, rfl⟩
      | call f args =>
        obtain ⟨xs, rfl, hx⟩ := g3
        obtain ⟨outs', c0, c1, c2⟩ := hfin
        simp only at c0
        rw [Oper.upon_enter]
        refine Calls.mono (hcf B w0 f args _ outs' c1 rfl E' xs w' hx g4.unset) fun e w'' he => ?_
        obtain ⟨q, hq, E2, z, l1, rfl, hz, hM, hkn⟩ := he
        obtain ⟨s, k1, k2, k3⟩ := c2 q hq
        simp only
        refine hK s k1 E2 _ w'' (by rw [pn k3]; exact k2) (Env.le_trans g1.1 l1.2.1) (fun b hb hbk => ?_) (h.put (Env.le_trans g1.1 l1.2.1) hz hM.unset rfl k3) ⟨_, rfl⟩
        exact (l1.2.2 b (Nat.lt_of_lt_of_le hb c0)).trans (ext b hb hbk)
end

end Go.Proofs.YtnidkdjapieinaaDoor.Ev
