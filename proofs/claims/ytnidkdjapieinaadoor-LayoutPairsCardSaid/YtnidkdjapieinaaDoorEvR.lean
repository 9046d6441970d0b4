/- A region that makes a map out of entries that are written in it, in whatever order. No program is walked here. -/
import Derived.Test.YtnidkdjapieinaaDoorEvP
noncomputable section
namespace Go.Proofs.YtnidkdjapieinaaDoor.Ev
open Go.RowKit
set_option linter.unusedSimpArgs false
set_option linter.unusedVariables false

/-! ### what stands in a region -/
/-- Operation i inserts key k; the value is temporary t, which operation wr alone writes. -/
structure Ent where
  i : Nat
  k : AV
  t : Nat
  wr : Nat
/-- c makes the map, temporary tm; S: what waits for all of it; K: c, the entries and S; m1: all but S. -/
structure Lit where
  c : Nat
  tm : Nat
  es : List Ent
  S : Nat
  K : Nat
  m1 : Nat
  r1 : Nat
  r2 : Nat
def Lit.gl (L : Lit) : List Nat := L.c :: L.es.map (·.i)

def noneIn (K : Nat) : List Edge → Bool
  | [] => true
  | e :: es => match Region.binds .any e with
    | false => noneIn K es
    | true => match tb K e.on with
      | true => false
      | false => noneIn K es
theorem noneIn_ok {K : Nat} : ∀ {l : List Edge}, noneIn K l = true → ∀ e ∈ l, Region.binds .any e = true → K.testBit e.on = false
  | [], h, e, he => by cases he
  | f :: fs, h, e, he => by
    simp only [noneIn] at h
    split at h
    · rename_i h1
      intro hb
      rcases List.mem_cons.1 he with rfl | he
      · rw [h1] at hb; cases hb
      · exact noneIn_ok h e he hb
    · split at h
      · cases h
      · rename_i h2
        intro hb
        rcases List.mem_cons.1 he with rfl | he
        · rw [tb_eq] at h2; exact h2
        · exact noneIn_ok h e he hb
def onlyIn (K c : Nat) : List Edge → Bool
  | [] => true
  | e :: es => match Region.binds .any e with
    | false => onlyIn K c es
    | true => match tb K e.on with
      | true => match Nat.beq e.on c with
        | true => onlyIn K c es
        | false => false
      | false => onlyIn K c es
theorem onlyIn_ok {K c : Nat} : ∀ {l : List Edge}, onlyIn K c l = true → ∀ e ∈ l, Region.binds .any e = true → K.testBit e.on = false ∨ e.on = c
  | [], h, e, he => by cases he
  | f :: fs, h, e, he => by
    simp only [onlyIn] at h
    intro hb
    split at h
    · rename_i h1
      rcases List.mem_cons.1 he with rfl | he
      · rw [h1] at hb; cases hb
      · exact onlyIn_ok h e he hb
    · split at h
      · split at h
        · rename_i h3
          rcases List.mem_cons.1 he with rfl | he
          · exact .inr (Nat.eq_of_beq_eq_true h3)
          · exact onlyIn_ok h e he hb
        · cases h
      · rename_i h2
        rcases List.mem_cons.1 he with rfl | he
        · rw [tb_eq] at h2; exact .inl h2
        · exact onlyIn_ok h e he hb
def edgeMask : List Edge → Nat
  | [] => 0
  | e :: es => match Region.binds .any e with
    | true => Nat.lor (edgeMask es) (Nat.pow 2 e.on)
    | false => edgeMask es
theorem edgeMask_ok {i : Nat} : ∀ {l : List Edge}, (edgeMask l).testBit i = true → ∃ e ∈ l, Region.binds .any e = true ∧ e.on = i
  | [], h => by simp [edgeMask] at h
  | f :: fs, h => by
    simp only [edgeMask] at h
    split at h
    · rename_i hb
      have h : (edgeMask fs ||| 2 ^ f.on).testBit i = true := h
      rw [Nat.testBit_or, Nat.testBit_two_pow, Bool.or_eq_true] at h
      rcases h with h | h
      · obtain ⟨e, h1, h2⟩ := edgeMask_ok h; exact ⟨e, by simp [h1], h2⟩
      · exact ⟨f, by simp, hb, by simpa using h⟩
    · obtain ⟨e, h1, h2⟩ := edgeMask_ok h; exact ⟨e, by simp [h1], h2⟩
def touches (S : Nat) : List Edge → Bool
  | [] => false
  | e :: es => match Region.binds .any e with
    | false => touches S es
    | true => match tb S e.on with
      | true => true
      | false => touches S es
theorem touches_ok {S : Nat} : ∀ {l : List Edge}, touches S l = true → ∃ e ∈ l, Region.binds .any e = true ∧ S.testBit e.on = true
  | [], h => by cases h
  | f :: fs, h => by
    simp only [touches] at h
    split at h
    · obtain ⟨e, h1, h2⟩ := touches_ok h; exact ⟨e, by simp [h1], h2⟩
    · rename_i hb
      split at h
      · rename_i h2; rw [tb_eq] at h2; exact ⟨f, by simp, hb, h2⟩
      · obtain ⟨e, h1, h2⟩ := touches_ok h; exact ⟨e, by simp [h1], h2⟩
def gmask : List Nat → Nat
  | [] => 0
  | i :: is => Nat.lor (gmask is) (Nat.pow 2 i)
theorem gmask_iff {i : Nat} : ∀ {l : List Nat}, (gmask l).testBit i = true ↔ i ∈ l
  | [] => by simp [gmask]
  | j :: js => by
    have : gmask (j :: js) = gmask js ||| 2 ^ j := rfl
    rw [this, Nat.testBit_or, Nat.testBit_two_pow, Bool.or_eq_true, gmask_iff (l := js)]
    simp only [decide_eq_true_eq, List.mem_cons]
    constructor
    · rintro (h | h)
      · exact .inr h
      · exact .inl h.symm
    · rintro (h | h)
      · exact .inr h.symm
      · exact .inl h
def notIn (i : Nat) : List Nat → Bool
  | [] => true
  | j :: js => match Nat.beq i j with
    | true => false
    | false => notIn i js
theorem notIn_ok {i : Nat} : ∀ {l : List Nat}, notIn i l = true → i ∉ l
  | [], _ => by simp
  | j :: js, h => by
    simp only [notIn] at h
    split at h
    · cases h
    · rename_i h1
      have := Nat.ne_of_beq_eq_false h1
      simp [this, notIn_ok h]
def nodupB : List Nat → Bool
  | [] => true
  | i :: is => match notIn i is with
    | true => nodupB is
    | false => false
theorem nodupB_ok : ∀ {l : List Nat}, nodupB l = true → l.Nodup
  | [], _ => by simp
  | i :: is, h => by
    simp only [nodupB] at h
    split at h
    · rename_i h1; exact List.nodup_cons.2 ⟨notIn_ok h1, nodupB_ok h⟩
    · cases h
def keyOther (a : AV) : List Ent → Bool
  | [] => true
  | e :: es => match keyEq a e.k, keyEq e.k a with
    | some false, some false => keyOther a es
    | _, _ => false
def keysApart : List Ent → Bool
  | [] => true
  | e :: es => match keyOther e.k es with
    | true => keysApart es
    | false => false
theorem keyOther_ok {a : AV} : ∀ {l : List Ent}, keyOther a l = true → ∀ e ∈ l, keyEq a e.k = some false ∧ keyEq e.k a = some false
  | [], _, e, he => by cases he
  | f :: fs, h, e, he => by
    simp only [keyOther] at h
    split at h
    · rename_i h1 h2
      rcases List.mem_cons.1 he with rfl | he
      · exact ⟨h1, h2⟩
      · exact keyOther_ok h e he
    · cases h
theorem keysApart_ok : ∀ {l : List Ent}, keysApart l = true → ∀ a ∈ l, ∀ b ∈ l, a.i ≠ b.i → keyEq a.k b.k = some false
  | [], _, a, ha => by cases ha
  | f :: fs, h, a, ha => by
    simp only [keysApart] at h
    split at h
    · rename_i h1
      intro b hb hne
      rcases List.mem_cons.1 ha with e1 | ha1
      · rcases List.mem_cons.1 hb with e2 | hb1
        · rw [e1, e2] at hne; exact absurd rfl hne
        · rw [e1]; exact (keyOther_ok h1 b hb1).1
      · rcases List.mem_cons.1 hb with e2 | hb1
        · rw [e2]; exact (keyOther_ok h1 a ha1).2
        · exact keysApart_ok h a ha1 b hb1 hne
    · cases h
def sole (W : T (List Nat)) (t i : Nat) : Bool := match W.get t with
  | some [j] => Nat.beq j i
  | _ => false
theorem sole_ok {ops : List Oper} {t i : Nat} (h : sole (writers ops 0 .nil) t i = true) {j : Nat} {o : Oper} (hj : ops[j]? = some o) (hd : o.dst = some t) : j = i := by
  obtain ⟨l, h1, h2⟩ := writers_ok (i := 0) (t := .nil) hj hd
  unfold sole at h
  rw [h1] at h
  split at h
  · rename_i k hk
    simp only [Option.some.injEq] at hk; subst hk
    simp only [List.mem_singleton] at h2
    have := Nat.eq_of_beq_eq_true h
    omega
  · cases h
def findEnt (i : Nat) : List Ent → Option Ent
  | [] => none
  | e :: es => match Nat.beq e.i i with
    | true => some e
    | false => findEnt i es
theorem findEnt_ok {i : Nat} {e : Ent} : ∀ {l : List Ent}, findEnt i l = some e → e ∈ l ∧ e.i = i
  | [], h => by cases h
  | f :: fs, h => by
    simp only [findEnt] at h
    split at h
    · rename_i h1
      simp only [Option.some.injEq] at h; subst h
      exact ⟨by simp, Nat.eq_of_beq_eq_true h1⟩
    · obtain ⟨h1, h2⟩ := findEnt_ok h; exact ⟨by simp [h1], h2⟩
def isTm (t : Nat) : Operand → Bool
  | .tmp m => Nat.beq m t
  | _ => false
theorem isTm_ok {t : Nat} {o : Operand} (h : isTm t o = true) : o = .tmp t := by
  cases o <;> simp only [isTm] at h <;> first | (cases h; done) | (rw [Nat.eq_of_beq_eq_true h])
def isKey (k : AV) : Operand → Bool
  | .const v => match constV v with
    | some u => AV.beq u k
    | none => false
  | _ => false
theorem isKey_ok {k : AV} {o : Operand} (h : isKey k o = true) : ∃ v, o = .const v ∧ AV.ofValue v = some k := by
  cases o <;> simp only [isKey] at h <;> first | (cases h; done) | skip
  rename_i v
  split at h
  · rename_i u hu
    rw [constV_eq] at hu
    exact ⟨v, rfl, by rw [hu, AV.eq_of_beq _ _ h]⟩
  · cases h
def isDst (d : Option Nat) (t : Nat) : Bool := match d with
  | some d => Nat.beq d t
  | none => false
section
variable (P : Program)
def keyType (ty : TypeId) (k : AV) : Bool := match P.underlying ty with
  | some (.map kt _) => match keyDesc P kt with
    | some d => keyFits d k
    | none => false
  | _ => false
def chkMake (L : Lit) (o : Oper) : Bool := match o.op, o.guard with
  | .makeMap _ none, none => isDst o.dst L.tm && (noneIn L.K o.after.toList && edgesIn L.m1 o.after.toList)
  | _, _ => false
def chkEnt (L : Lit) (e : Ent) (o : Oper) : Bool := match o.op, o.guard, o.dst with
  | .insert ty m k x, none, none => isTm L.tm m && isKey e.k k && isTm e.t x && waits e.wr o.after.toList && waits L.c o.after.toList && onlyIn L.K L.c o.after.toList && keyType P ty e.k && edgesIn L.m1 o.after.toList
  | _, _, _ => false
def chkLater (L : Lit) (o : Oper) : Bool := touches L.S o.after.toList || Nat.beq (Nat.land (edgeMask o.after.toList) L.m1) L.m1
def chkOp (L : Lit) (i : Nat) (o : Oper) : Bool := match tb L.K i with
  | false => noneIn L.K o.after.toList
  | true => match tb L.S i with
    | true => chkLater L o
    | false => match Nat.beq i L.c with
      | true => chkMake L o
      | false => match findEnt i L.es with
        | some e => chkEnt P L e o
        | none => false
def chkOps (L : Lit) : List Oper → Nat → Bool
  | [], _ => true
  | o :: os, i => match chkOp P L i o with
    | true => chkOps L os (i + 1)
    | false => false
theorem chkOps_ok {L : Lit} : ∀ {os : List Oper} {i : Nat}, chkOps P L os i = true → ∀ (k : Nat) (o : Oper), os[k]? = some o → chkOp P L (i + k) o = true
  | [], i, h, k, o, ho => by simp at ho
  | q :: qs, i, h, k, o, ho => by
    simp only [chkOps] at h
    split at h
    case h_2 => cases h
    rename_i h1
    cases k with
    | zero => simp at ho; subst ho; exact h1
    | succ k =>
      simp at ho
      have := chkOps_ok h k o ho
      rw [show i + (k + 1) = i + 1 + k from by omega]; exact this
def chkWr (L : Lit) (W : T (List Nat)) : List Ent → Bool
  | [] => true
  | e :: es => match sole W e.t e.wr && !tb L.K e.wr with
    | true => chkWr L W es
    | false => false
theorem chkWr_ok {L : Lit} {W : T (List Nat)} : ∀ {l : List Ent}, chkWr L W l = true → ∀ e ∈ l, sole W e.t e.wr = true ∧ L.K.testBit e.wr = false
  | [], _, e, he => by cases he
  | f :: fs, h, e, he => by
    simp only [chkWr] at h
    split at h
    · rename_i h1
      rw [Bool.and_eq_true, tb_eq] at h1
      rcases List.mem_cons.1 he with rfl | he
      · exact ⟨h1.1, by simpa using h1.2⟩
      · exact chkWr_ok h e he
    · cases h
/-- All that is asked of such a region. -/
def Lit.chk (L : Lit) (ops : List Oper) (n : Nat) : Bool :=
  chkOps P L ops 0 && (chkWr L (writers ops 0 .nil) L.es && (sole (writers ops 0 .nil) L.tm L.c && (nodupB L.gl && (keysApart L.es &&
    (Nat.beq L.K (Nat.lor L.S (gmask L.gl)) && (Nat.beq L.m1 (Nat.xor (Nat.sub (Nat.pow 2 n) 1) L.S) && (Nat.blt L.S (Nat.pow 2 n) && (Nat.beq (Nat.land L.S (gmask L.gl)) 0 && (Nat.blt (gmask L.gl) (Nat.pow 2 n) && Nat.beq (Nat.add (Nat.add L.r1 (List.length L.gl)) L.r2) n)))))))))
end
structure Lit.Ok (P : Program) (L : Lit) (ops : Array Oper) : Prop where
  op : ∀ i o, ops[i]? = some o → chkOp P L i o = true
  wr : ∀ e ∈ L.es, (∀ j o, ops[j]? = some o → o.dst = some e.t → j = e.wr) ∧ L.K.testBit e.wr = false
  tm : ∀ j o, ops[j]? = some o → o.dst = some L.tm → j = L.c
  nd : L.gl.Nodup
  ap : ∀ a ∈ L.es, ∀ b ∈ L.es, a.i ≠ b.i → keyEq a.k b.k = some false
  kk : ∀ i, L.K.testBit i = (L.S.testBit i || decide (i ∈ L.gl))
  m1 : ∀ i, L.m1.testBit i = (decide (i < ops.size) && !L.S.testBit i)
  sl : ∀ i, L.S.testBit i = true → i < ops.size
  sg : ∀ i ∈ L.gl, L.S.testBit i = false
  gl : ∀ i ∈ L.gl, i < ops.size
  cnt : L.r1 + L.gl.length + L.r2 = ops.size
theorem Lit.chk_ok {P : Program} {L : Lit} {ops : Array Oper} (h : L.chk P ops.toList ops.size = true) : L.Ok P ops := by
  unfold Lit.chk at h
  simp only [Bool.and_eq_true] at h
  obtain ⟨h1, h2, h3, h4, h5, h6, h7, h8, h9, h10, h11⟩ := h
  have e6 := Nat.eq_of_beq_eq_true h6
  have e7 := Nat.eq_of_beq_eq_true h7
  have e8 : L.S < 2 ^ ops.size := blt_iff.1 h8
  have e9 := Nat.eq_of_beq_eq_true h9
  have e10 : gmask L.gl < 2 ^ ops.size := blt_iff.1 h10
  have e11 := Nat.eq_of_beq_eq_true h11
  have sl : ∀ i, L.S.testBit i = true → i < ops.size := fun i hi => by
    rcases Nat.lt_or_ge i ops.size with h | h
    · exact h
    · rw [Nat.testBit_lt_two_pow (Nat.lt_of_lt_of_le e8 (Nat.pow_le_pow_right (by omega) h))] at hi; cases hi
  have gl : ∀ i ∈ L.gl, i < ops.size := fun i hi => by
    have hi := gmask_iff.2 hi
    rcases Nat.lt_or_ge i ops.size with h | h
    · exact h
    · rw [Nat.testBit_lt_two_pow (Nat.lt_of_lt_of_le e10 (Nat.pow_le_pow_right (by omega) h))] at hi; cases hi
  refine ⟨fun i o hi => ?_, fun e he => ?_, fun j o hj hd => ?_, nodupB_ok h4, keysApart_ok h5, fun i => ?_, fun i => ?_, sl, fun i hi => ?_, gl, e11⟩
  · have := chkOps_ok P h1 i o (by rw [Array.getElem?_toList]; exact hi)
    rw [Nat.zero_add] at this; exact this
  · obtain ⟨k1, k2⟩ := chkWr_ok h2 e he
    exact ⟨fun j o hj hd => sole_ok k1 (by rw [Array.getElem?_toList]; exact hj) hd, k2⟩
  · exact sole_ok h3 (by rw [Array.getElem?_toList]; exact hj) hd
  · rw [e6]
    show (L.S ||| gmask L.gl).testBit i = _
    rw [Nat.testBit_or]
    congr 1
    rw [Bool.eq_iff_iff, gmask_iff]; simp
  · rw [e7]
    show ((2 ^ ops.size - 1) ^^^ L.S).testBit i = _
    rw [Nat.testBit_xor, Nat.testBit_two_pow_sub_one]
    cases e : L.S.testBit i with
    | false => simp
    | true => have := sl i e; simp [this]
  · cases e : L.S.testBit i with
    | false => rfl
    | true =>
      have : (L.S &&& gmask L.gl).testBit i = true := by rw [Nat.testBit_and, e, gmask_iff.2 hi]; rfl
      have e9 : L.S &&& gmask L.gl = 0 := e9
      rw [e9] at this; simp at this

/-! ### guarded blocks -/
def Zone.with (B : Zone) (p : Nat) (O : Obj) : Zone := ⟨B.n, fun q => if q = p then some O else B.z q⟩
section
variable {P : Program} {Φ : Facts}
variable {ν : Nat → Value} [FactsOk P ν Φ] {B Z : Zone} {w0 w : World} {E : Env} {M : Mem}
variable {a : Act}
theorem MR.guardNew (h : MR ν B w0 E M w) (O : Obj) : B.z w.heap.size = none ∧ MR ν (B.with w.heap.size O) w0 E M (w.alloc O) := by
  have hz : B.z w.heap.size = none := by
    cases e : B.z w.heap.size with
    | none => rfl
    | some o => have := h.kept _ _ e; simp at this
  refine ⟨hz, h.low.alloc h.big O, fun q oq k => ?_, by have := h.big; simp [Zone.with]; omega, h.dom, h.free, h.rng, fun b o q k e => ?_, fun b o k => ?_, h.inj⟩
  · simp only [Zone.with] at k
    split at k
    · rename_i e; subst e; simp only [Option.some.injEq] at k; subst k; exact heap_alloc_new w _
    · exact (Below.heap_alloc _ _ _ (Array.getElem?_eq_some_iff.1 (h.kept q oq k)).1).trans (h.kept q oq k)
  · obtain ⟨q', e', r⟩ := h.obj b o k
    rw [e] at e'
    simp at e'; subst e'
    have := r.lt
    simp only [Zone.with]
    rw [if_neg (by omega)]
    exact h.off b o q k e
  · obtain ⟨q, e, r⟩ := h.obj b o k
    exact ⟨q, e, r.mono (Env.le_refl E) (Below.heap_alloc _ _ _ r.lt)⟩
theorem MR.guardTurn {p : Nat} {O : Obj} (h : MR ν (B.with p O) w0 E M w) (hp : B.n ≤ p) (O' : Obj) : MR ν (B.with p O') w0 E M { w with heap := w.heap.setIfInBounds p O' } := by
  have hk := h.kept p O (by simp [Zone.with])
  have hlt := (Array.getElem?_eq_some_iff.1 hk).1
  have hne : ∀ q, q ≠ p → (w.heap.setIfInBounds p O')[q]? = w.heap[q]? := fun q hq => Array.getElem?_setIfInBounds_ne (fun e => hq e.symm)
  have hoff : ∀ b o q, M.get b = some o → E b = some q → q.1 ≠ p := fun b o q k e hq => by
    have := h.off b o q k e
    simp [Zone.with, hq] at this
  refine ⟨h.low.trans ⟨rfl, rfl, rfl, by simp, fun k hk => hne k (by have : k < B.n := hk; omega)⟩, fun q oq k => ?_, by have := h.big; simpa [Zone.with] using this, h.dom, h.free, h.rng, fun b o q k e => ?_, fun b o k => ?_, h.inj⟩
  · simp only [Zone.with] at k
    split at k
    · rename_i e; subst e; simp only [Option.some.injEq] at k; subst k
      exact Array.getElem?_setIfInBounds_self_of_lt hlt
    · rename_i e
      exact (hne q e).trans (h.kept q oq (by simp [Zone.with, e, k]))
  · have h1 := hoff b o q k e
    have := h.off b o q k e
    simp only [Zone.with, if_neg h1] at this ⊢
    exact this
  · obtain ⟨q, e, r⟩ := h.obj b o k
    exact ⟨q, e, r.mono (Env.le_refl E) (hne _ (hoff b o q k e))⟩
theorem MR.unguard {p : Nat} {ms : Array MapEntry} {ck : Nat} (h : MR ν (B.with p (.map ms ck)) w0 E M w) (hp : B.n ≤ p) (hz : B.z p = none) {es : List (AV × AV)} (hu : UM ν E es ms.toList) (hst : MapKept.Stamped ms ck) :
    MR ν B w0 (E.put M.k (p, 0, 0)) (M.new (.umap es)) w := by
  have hk : w.heap[p]? = some (.map ms ck) := h.kept p (.map ms ck) (by simp [Zone.with])
  have hle := h.le_put (p, 0, 0)
  have hnext : (E.put M.k (p, 0, 0)) M.next = none := by
    unfold Env.put
    rw [if_neg (by have := M.k_lt_next; omega)]
    cases e : E M.next with
    | none => rfl
    | some p => have := h.dom _ p e; have := M.n_le_next; omega
  have hget : ∀ c oc, (M.new (.umap es)).get c = some oc → (c = M.k ∧ oc = .umap es) ∨ (c ≠ M.k ∧ M.get c = some oc) := by
    intro c oc k
    rw [Mem.get_new] at k
    split at k
    · rename_i e; simp at k; exact .inl ⟨e.symm, k.symm⟩
    · rename_i e; exact .inr ⟨fun x => e x.symm, k⟩
  have hoff : ∀ b o q, M.get b = some o → E b = some q → q.1 ≠ p ∧ B.z q.1 = none := fun b o q k e => by
    have := h.off b o q k e
    simp only [Zone.with] at this
    split at this
    · cases this
    · rename_i hq; exact ⟨hq, this⟩
  refine ⟨h.low, fun q oq k => ?_, h.big, fun c q e => ?_, hnext, fun c q e => ?_, fun c oc q k e => ?_, fun c oc k => ?_, fun c c' o1 o2 q q' k k' e e' hq => ?_⟩
  · refine h.kept q oq ?_
    simp only [Zone.with]
    rw [if_neg (fun e => by subst e; rw [hz] at k; cases k)]
    exact k
  · rw [Mem.new_n]
    unfold Env.put at e
    split at e
    · rename_i hb; have := M.k_lt_next; omega
    · have := h.dom c q e; have := M.n_le_next; omega
  · unfold Env.put at e
    split at e
    · simp at e; subst e; exact hp
    · exact h.rng c q e
  · rcases hget c oc k with ⟨rfl, rfl⟩ | ⟨hc, k⟩
    · rw [Env.put_self] at e
      simp at e; subst e
      exact hz
    · unfold Env.put at e
      rw [if_neg (fun x => hc x.symm)] at e
      exact (hoff c oc q k e).2
  · rcases hget c oc k with ⟨rfl, rfl⟩ | ⟨_, k⟩
    · exact ⟨_, Env.put_self _ _ _, ms, ck, hk, hu.mono hle, hst⟩
    · obtain ⟨q, e, r⟩ := h.obj c oc k
      exact ⟨q, hle _ _ e, r.mono hle rfl⟩
  · rcases hget c o1 k with ⟨rfl, rfl⟩ | ⟨hc, k⟩
    · rcases hget c' o2 k' with ⟨rfl, rfl⟩ | ⟨hc', k'⟩
      · rfl
      · rw [Env.put_self] at e
        simp at e; subst e
        unfold Env.put at e'
        rw [if_neg (fun x => hc' x.symm)] at e'
        exact absurd hq.symm (hoff c' o2 q' k' e').1
    · unfold Env.put at e
      rw [if_neg (fun x => hc x.symm)] at e
      rcases hget c' o2 k' with ⟨rfl, rfl⟩ | ⟨hc', k'⟩
      · rw [Env.put_self] at e'
        simp at e'; subst e'
        exact absurd hq (hoff c o1 q k e).1
      · unfold Env.put at e'
        rw [if_neg (fun x => hc' x.symm)] at e'
        exact h.inj c c' o1 o2 q q' k k' e e' hq
end
end Go.Proofs.YtnidkdjapieinaaDoor.Ev
