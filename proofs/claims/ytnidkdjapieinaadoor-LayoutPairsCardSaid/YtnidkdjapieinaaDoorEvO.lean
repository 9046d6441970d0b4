/- A region of the little machine in whatever order. No program is walked here. -/
import Derived.Test.YtnidkdjapieinaaDoorEvN
noncomputable section
namespace Go.Proofs.YtnidkdjapieinaaDoor.Ev
open Go.RowKit
set_option linter.unusedSimpArgs false
set_option linter.unusedVariables false

section
variable {P : Program} {Φ : Facts}
variable {ν : Nat → Value} [FactsOk P ν Φ] {B : Zone} {w0 w : World} {E : Env} {M : Mem}
variable {a : Act}

/-- A point of the search: how many are still to come, which have come. -/
structure Node where
  r : Nat
  mask : Nat
  st : St
def heldAt (i : Nat) : Held → Option (Nat × Nat × Nat)
  | [] => none
  | (j, q) :: hs => match Nat.beq j i with
    | true => some q
    | false => heldAt i hs
section
variable (P) (Φ)
/-- How many cells a load of a type reads. -/
def loadLen (ty : TypeId) : Option Nat := match tagg P ty with
  | some true => tsize P ty
  | some false => some 1
  | none => none
/-- A load of cells that are held. -/
def heldLoadAt (ty : TypeId) (x : Operand) (H : Held) (st : St) (i : Nat) : Option AV :=
  match heldAt i H with
  | some (b, f, n) => match opnd st.t x with
    | some (.ptr b' f') => match Nat.beq b b', Nat.beq f f', loadLen P ty with
      | true, true, some n' => match Nat.beq n n' with
        | true => match aload P ty (.ptr b f) st.m with
          | some (v, _) => some v
          | none => none
        | false => none
      | _, _, _ => none
    | _ => none
  | none => none
def heldLoad (H : Held) (st : St) (i : Nat) (o : Oper) : Option AV :=
  Op.rec (motive := fun _ => Held → St → Nat → Option AV) (fun _ _ _ _ => none) (fun _ _ _ _ => none) (fun _ _ _ _ _ _ => none) (fun _ _ _ _ => none) (fun _ _ _ _ _ => none) (fun _ _ _ _ _ => none) (fun _ _ _ _ _ _ => none) (fun _ _ _ _ _ _ _ => none) (heldLoadAt P) (fun _ _ _ _ _ _ => none) (fun _ _ _ _ => none) (fun _ _ _ _ => none) (fun _ _ _ _ => none) (fun _ _ _ _ _ _ _ _ => none) (fun _ _ _ _ _ _ => none) (fun _ _ _ _ _ _ => none) (fun _ _ _ _ _ => none) (fun _ _ _ _ _ => none) (fun _ _ _ _ _ _ => none) (fun _ _ _ _ _ => none) (fun _ _ _ _ _ => none) (fun _ _ _ _ _ _ => none) (fun _ _ _ _ _ _ _ _ => none) (fun _ _ _ _ _ _ => none) (fun _ _ _ _ _ _ => none) (fun _ _ _ _ _ _ => none) (fun _ _ _ _ _ _ => none) (fun _ _ _ _ _ _ _ => none) (fun _ _ _ _ _ _ _ => none) (fun _ _ _ _ _ _ => none) (fun _ _ _ _ _ _ _ => none) (fun _ _ _ _ _ => none) (fun _ _ _ _ _ => none) (fun _ _ _ _ => none) (fun _ _ _ _ _ _ _ => none) (fun _ _ _ _ _ => none) (fun _ _ _ _ => none) (fun _ _ _ _ => none) (fun _ _ _ _ => none) (fun _ _ _ _ => none) (fun _ _ _ _ _ => none) (fun _ _ _ _ _ _ => none) (fun _ _ _ _ _ => none) o.op H st i
theorem heldLoad_eq (H : Held) (st : St) (i : Nat) (o : Oper) : heldLoad P H st i o = (match o.op with
  | .load ty x => heldLoadAt P ty x H st i
  | _ => none) := by
  obtain ⟨dst, op, type, pos, after, guard⟩ := o
  cases op <;> rfl
def atakeNow (H : Held) (st : St) (i : Nat) (o : Oper) : Option St :=
  Option.rec (motive := fun _ => Option St) (Option.rec (motive := fun _ => Option St) none (fun v => st.put o.dst v st.m) (heldLoad P H st i o)) (fun v => st.put o.dst v st.m) (apure P Φ st.t o)
def atake (ops : List Oper) (H : Held) (st : St) (i : Nat) (o : Oper) : Option St :=
  Option.rec (motive := fun _ => Option St) none (fun b => Bool.rec (motive := fun _ => Option St) (st.put o.dst (.tup []) st.m) (atakeNow P Φ H st i o) b) (awanted ops st.t o)
theorem atake_eq (ops : List Oper) (H : Held) (st : St) (i : Nat) (o : Oper) : atake P Φ ops H st i o = (match awanted ops st.t o with
  | some false => st.put o.dst (.tup []) st.m
  | some true => match apure P Φ st.t o with
    | some v => st.put o.dst v st.m
    | none => match heldLoad P H st i o with
      | some v => st.put o.dst v st.m
      | none => none
  | none => none) := by
  unfold atake
  cases awanted ops st.t o with
  | none => rfl
  | some b => cases b with
    | false => rfl
    | true =>
      show atakeNow P Φ H st i o = _
      unfold atakeNow
      cases apure P Φ st.t o with
      | some v => rfl
      | none => cases heldLoad P H st i o <;> rfl
/-- One walk through the list: what may be taken is taken. -/
def takes (ops : List Oper) (H : Held) (os : List Oper) (i r mask : Nat) (st : St) : Node :=
  List.rec (motive := fun _ => Nat → Nat → Nat → St → Node) (fun _ r mask st => ⟨r, mask, st⟩)
    (fun o _ ih i r mask st => Bool.rec (motive := fun _ => Node)
      (Bool.rec (motive := fun _ => Node) (ih (Nat.succ i) r mask st)
        (Nat.rec (motive := fun _ => Node) ⟨0, mask, st⟩ (fun r' _ => Option.rec (motive := fun _ => Node) (ih (Nat.succ i) r mask st) (fun s => ih (Nat.succ i) r' (Nat.lor mask (Nat.pow 2 i)) s) (atake P Φ ops H st i o)) r) (edgesIn mask o.after.toList))
      (ih (Nat.succ i) r mask st) (tb mask i)) os i r mask st
theorem takes_nil (ops : List Oper) (H : Held) (i r mask : Nat) (st : St) : takes P Φ ops H [] i r mask st = ⟨r, mask, st⟩ := rfl
theorem takes_cons (ops : List Oper) (H : Held) (o : Oper) (os : List Oper) (i r mask : Nat) (st : St) : takes P Φ ops H (o :: os) i r mask st = (match tb mask i with
    | true => takes P Φ ops H os (i + 1) r mask st
    | false => match edgesIn mask o.after.toList with
      | false => takes P Φ ops H os (i + 1) r mask st
      | true => match r with
        | 0 => ⟨0, mask, st⟩
        | r + 1 => match atake P Φ ops H st i o with
          | some s => takes P Φ ops H os (i + 1) r (mask ||| 2 ^ i) s
          | none => takes P Φ ops H os (i + 1) (r + 1) mask st) := by
  show Bool.rec (motive := fun _ => Node) (Bool.rec (motive := fun _ => Node) (takes P Φ ops H os (i + 1) r mask st) (Nat.rec (motive := fun _ => Node) ⟨0, mask, st⟩ (fun r' _ => Option.rec (motive := fun _ => Node) (takes P Φ ops H os (i + 1) r mask st) (fun s => takes P Φ ops H os (i + 1) r' (mask ||| 2 ^ i) s) (atake P Φ ops H st i o)) r) (edgesIn mask o.after.toList)) (takes P Φ ops H os (i + 1) r mask st) (tb mask i) = _
  cases tb mask i with
  | true => rfl
  | false => cases edgesIn mask o.after.toList with
    | false => rfl
    | true => cases r with
      | zero => rfl
      | succ r => cases atake P Φ ops H st i o <;> rfl
def heldAll (o : Oper) (M : Mem) (H : Held) : List St → Bool
  | [] => true
  | s :: ss => match heldOk o M s.m H with
    | true => heldAll o M H ss
    | false => false
def tag (r mask : Nat) : List St → List Node
  | [] => []
  | s :: ss => ⟨r, mask, s⟩ :: tag r mask ss
def branch (cf : CF) (ops : List Oper) (H : Held) (base r mask : Nat) (st : St) : List Oper → Nat → Option (List Node)
  | [], _ => some []
  | o :: os, i => match tb mask i with
    | true => branch cf ops H base r mask st os (i + 1)
    | false => match edgesIn mask o.after.toList with
      | false => branch cf ops H base r mask st os (i + 1)
      | true => match stepOp P Φ cf ops st (base + i) o with
        | none => none
        | some l => match heldAll o st.m H l with
          | false => none
          | true => match branch cf ops H base r mask st os (i + 1) with
            | none => none
            | some l' => some (tag r (mask ||| 2 ^ i) l ++ l')
def expand (cf : CF) (ops : List Oper) (H : Held) (base : Nat) : Node → Option (List Node)
  | ⟨0, mask, st⟩ => some [⟨0, mask, st⟩]
  | ⟨r + 1, mask, st⟩ => match takes P Φ ops H ops 0 (r + 1) mask st with
    | ⟨0, mask, st⟩ => some [⟨0, mask, st⟩]
    | ⟨r + 1, mask, st⟩ => match branch P Φ cf ops H base r mask st ops 0 with
      | some (n :: ns) => some (n :: ns)
      | _ => none
def Node.beq : Node → Node → Bool
  | ⟨r, m, s⟩, ⟨r', m', s'⟩ => match Nat.beq m m' with
    | true => match Nat.beq r r' with
      | true => St.beq s s'
      | false => false
    | false => false
def hasNode (n : Node) : List Node → Bool
  | [] => false
  | m :: ms => match Node.beq n m with
    | true => true
    | false => hasNode n ms
def dedupe : List Node → List Node
  | [] => []
  | n :: ns => match hasNode n ns with
    | true => dedupe ns
    | false => n :: dedupe ns
def allDone : List Node → Bool
  | [] => true
  | ⟨0, _, _⟩ :: ns => allDone ns
  | ⟨_ + 1, _, _⟩ :: _ => false
def levels (cf : CF) (ops : List Oper) (H : Held) (base : Nat) : Nat → List Node → Option (List Node)
  | 0, _ => none
  | f + 1, F => match allDone F with
    | true => some F
    | false => match runAll (expand P Φ cf ops H base) F with
      | none => none
      | some F' => match F' with
        | [n] => levels cf ops H base f [n]
        | F' => levels cf ops H base f (dedupe F')
/-- Which loads may be held: those that can be made before anything else happens. -/
def preLoad (ty : TypeId) (x : Operand) (st : St) (i : Nat) (o : Oper) : Option ((Nat × Nat × Nat × Nat) × St) :=
  match opnd st.t x with
  | some (.ptr b f) => match loadLen P ty with
    | some n => match aload P ty (.ptr b f) st.m with
      | some (v, _) => match st.put o.dst v st.m with
        | some s => some ((i, b, f, n), s)
        | none => none
      | none => none
    | none => none
  | _ => none
def preOp (st : St) (i : Nat) (o : Oper) : Option ((Nat × Nat × Nat × Nat) × St) :=
  Op.rec (motive := fun _ => St → Nat → Oper → Option ((Nat × Nat × Nat × Nat) × St)) (fun _ _ _ _ => none) (fun _ _ _ _ => none) (fun _ _ _ _ _ _ => none) (fun _ _ _ _ => none) (fun _ _ _ _ _ => none) (fun _ _ _ _ _ => none) (fun _ _ _ _ _ _ => none) (fun _ _ _ _ _ _ _ => none) (preLoad P) (fun _ _ _ _ _ _ => none) (fun _ _ _ _ => none) (fun _ _ _ _ => none) (fun _ _ _ _ => none) (fun _ _ _ _ _ _ _ _ => none) (fun _ _ _ _ _ _ => none) (fun _ _ _ _ _ _ => none) (fun _ _ _ _ _ => none) (fun _ _ _ _ _ => none) (fun _ _ _ _ _ _ => none) (fun _ _ _ _ _ => none) (fun _ _ _ _ _ => none) (fun _ _ _ _ _ _ => none) (fun _ _ _ _ _ _ _ _ => none) (fun _ _ _ _ _ _ => none) (fun _ _ _ _ _ _ => none) (fun _ _ _ _ _ _ => none) (fun _ _ _ _ _ _ => none) (fun _ _ _ _ _ _ _ => none) (fun _ _ _ _ _ _ _ => none) (fun _ _ _ _ _ _ => none) (fun _ _ _ _ _ _ _ => none) (fun _ _ _ _ _ => none) (fun _ _ _ _ _ => none) (fun _ _ _ _ => none) (fun _ _ _ _ _ _ _ => none) (fun _ _ _ _ _ => none) (fun _ _ _ _ => none) (fun _ _ _ _ => none) (fun _ _ _ _ => none) (fun _ _ _ _ => none) (fun _ _ _ _ _ => none) (fun _ _ _ _ _ _ => none) (fun _ _ _ _ _ => none) o.op st i o
/-- Is the operation wanted, is it no pure one? -/
def preAt (ops : List Oper) (st : St) (i : Nat) (o : Oper) : Option ((Nat × Nat × Nat × Nat) × St) :=
  Option.rec (motive := fun _ => Option ((Nat × Nat × Nat × Nat) × St)) none (fun b => Bool.rec (motive := fun _ => Option ((Nat × Nat × Nat × Nat) × St)) none (preOp P st i o) b) (awanted ops st.t o)
def pre (ops : List Oper) (os : List Oper) (i mask : Nat) (st : St) : Held :=
  List.rec (motive := fun _ => Nat → Nat → St → Held) (fun _ _ _ => [])
    (fun o _ ih i mask st => Bool.rec (motive := fun _ => Held) (ih (Nat.succ i) mask st)
      (Option.rec (motive := fun _ => Held)
        (Option.rec (motive := fun _ => Held) (ih (Nat.succ i) mask st) (fun r => r.1 :: ih (Nat.succ i) (Nat.lor mask (Nat.pow 2 i)) r.2) (preAt P ops st i o))
        (fun s => ih (Nat.succ i) (Nat.lor mask (Nat.pow 2 i)) s) (atake P Φ ops [] st i o)) (edgesIn mask o.after.toList)) os i mask st
def states (full : Nat) : List Node → Option (List St)
  | [] => some []
  | ⟨_, m, s⟩ :: ns => match Nat.beq m full with
    | true => match states full ns with
      | some l => some (s :: l)
      | none => none
    | false => none
def reserve (n : Nat) : St → St
  | ⟨t, s, ⟨h, m, _⟩⟩ => ⟨t, s, ⟨h, m + n, m + n⟩⟩
def explore (cf : CF) (ops : Array Oper) (opl : List Oper) (n : Nat) (H : Held) (st : St) : Option (List St) :=
  match levels P Φ cf opl H st.m.n (n + 2) [⟨n, 0, reserve n st⟩] with
  | some F => states (2 ^ n - 1) F
  | none => none
end

theorem Node.eq_of_beq {a b : Node} (h : Node.beq a b = true) : a = b := by
  obtain ⟨r, m, s⟩ := a
  obtain ⟨r', m', s'⟩ := b
  simp only [Node.beq] at h
  split at h
  · rename_i h1
    split at h
    · rename_i h2
      rw [Nat.eq_of_beq_eq_true h1, Nat.eq_of_beq_eq_true h2, St.eq_of_beq _ _ h]
    · cases h
  · cases h
theorem hasNode_ok {n : Node} : ∀ {l : List Node}, hasNode n l = true → n ∈ l
  | [], h => by cases h
  | m :: ms, h => by
    simp only [hasNode] at h
    split at h
    · rename_i h1
      rw [Node.eq_of_beq h1]; simp
    · exact List.mem_cons_of_mem _ (hasNode_ok h)
theorem dedupe_ok : ∀ {l : List Node} {n : Node}, n ∈ l → n ∈ dedupe l
  | [], n, h => by cases h
  | m :: ms, n, h => by
    simp only [dedupe]
    split
    · rename_i hm
      rcases List.mem_cons.1 h with rfl | h
      · exact dedupe_ok (hasNode_ok hm)
      · exact dedupe_ok h
    · rcases List.mem_cons.1 h with rfl | h
      · simp
      · exact List.mem_cons_of_mem _ (dedupe_ok h)
theorem tag_mem {r mask : Nat} : ∀ {l : List St} {s : St}, s ∈ l → (⟨r, mask, s⟩ : Node) ∈ tag r mask l
  | [], s, h => by cases h
  | q :: qs, s, h => by
    rcases List.mem_cons.1 h with rfl | h
    · simp [tag]
    · simp only [tag, List.mem_cons]; exact .inr (tag_mem h)
theorem heldAll_ok {o : Oper} {M : Mem} {H : Held} : ∀ {l : List St}, heldAll o M H l = true → ∀ s ∈ l, heldOk o M s.m H = true
  | [], h, s, hs => by cases hs
  | q :: qs, h, s, hs => by
    simp only [heldAll] at h
    split at h
    · rename_i hq
      rcases List.mem_cons.1 hs with rfl | hs
      · exact hq
      · exact heldAll_ok h s hs
    · cases h
theorem branch_ok {cf : CF} {ops : List Oper} {H : Held} {base r mask : Nat} {st : St} : ∀ {os : List Oper} {i : Nat} {l : List Node}, ops.drop i = os → branch P Φ cf ops H base r mask st os i = some l →
    ∀ (k : Nat) (o : Oper), i ≤ k → ops[k]? = some o → mask.testBit k = false → edgesIn mask o.after.toList = true → ∃ ss, stepOp P Φ cf ops st (base + k) o = some ss ∧ heldAll o st.m H ss = true ∧ ∀ s ∈ ss, (⟨r, mask ||| 2 ^ k, s⟩ : Node) ∈ l
  | [], i, l, hd, h, k, o, hk, ho, _, _ => by
    have : ops.length ≤ i := List.drop_eq_nil_iff.1 hd
    have := (List.getElem?_eq_some_iff.1 ho).1
    omega
  | q :: qs, i, l, hd, h, k, o, hk, ho, hb, he => by
    have hi : ops[i]? = some q := by
      have := List.getElem?_drop (xs := ops) (i := i) (j := 0)
      rw [hd] at this
      simpa using this.symm
    have hd' : ops.drop (i + 1) = qs := by rw [← List.drop_drop, hd]; rfl
    simp only [branch] at h
    by_cases e : k = i
    · subst e
      rw [hi] at ho
      simp only [Option.some.injEq] at ho; subst ho
      rw [tb_eq, hb, he] at h
      simp only at h
      split at h
      · cases h
      rename_i ss hss
      split at h
      · cases h
      rename_i hha
      split at h
      · cases h
      rename_i l' hl'
      simp only [Option.some.injEq] at h; subst h
      exact ⟨ss, hss, hha, fun s hs => List.mem_append_left _ (tag_mem hs)⟩
    · split at h
      · exact branch_ok hd' h k o (by omega) ho hb he
      · split at h
        · exact branch_ok hd' h k o (by omega) ho hb he
        · split at h
          · cases h
          split at h
          · cases h
          split at h
          · cases h
          rename_i l' hl'
          simp only [Option.some.injEq] at h; subst h
          obtain ⟨ss, h1, h2, h3⟩ := branch_ok hd' hl' k o (by omega) ho hb he
          exact ⟨ss, h1, h2, fun s hs => List.mem_append_right _ (h3 s hs)⟩

/-- What holds at a node of the search. -/
structure Inv (ν : Nat → Value) (B : Zone) (w0 : World) (ops : Array Oper) (H : Held) (base : Nat) (E0 : Env) (ws : World) (nd : Node) (E : Env) (a : Act) (w : World) : Prop where
  sr : SR ν B w0 E nd.st a w
  room : base + ops.size ≤ nd.st.m.n
  free : ∀ i, i < ops.size → nd.mask.testBit i = false → E (base + i) = none
  bits : ∀ i, nd.mask.testBit i = true → i < ops.size
  held : ∀ i, nd.mask.testBit i = false → KH H E0 ws i w
  late : E0.le E
  old : ∀ b, b < base → E b = E0 b

theorem heldAt_ok {i : Nat} : ∀ {H : Held} {q : Nat × Nat × Nat}, heldAt i H = some q → (i, q) ∈ H
  | [], q, h => by cases h
  | (r1, r2) :: rs, q, h => by
    simp only [heldAt] at h
    split at h
    · rename_i e
      have e := Nat.eq_of_beq_eq_true e
      simp only [Option.some.injEq] at h; subst h
      rw [← e]; simp
    · exact List.mem_cons_of_mem _ (heldAt_ok h)

theorem heldLoad_ok {ops : Array Oper} {H : Held} {base : Nat} {E0 : Env} {ws : World} {nd : Node} (hInv : Inv ν B w0 ops H base E0 ws nd E a w) (hH : ∀ h ∈ H, ∃ p, E0 h.2.1 = some p) {i : Nat} {o : Oper} (hb : nd.mask.testBit i = false) {v : AV} (hv : heldLoad P H nd.st i o = some v) :
    ∃ x, (∀ w', KH H E0 ws i w' → (execOp a.eval o).run P w' = .ok (.value x) w') ∧ V ν E v x := by
  obtain ⟨dst, op, type, pos, after, guard⟩ := o
  rw [heldLoad_eq] at hv
  simp only at hv
  split at hv
  case h_2 => cases hv
  rename_i ty x
  unfold heldLoadAt at hv
  split at hv
  case h_2 => cases hv
  rename_i b f n hat
  have hmem := heldAt_ok hat
  split at hv
  case h_2 => cases hv
  rename_i b' f' hx
  split at hv
  case h_2 => cases hv
  rename_i n' e1 e2 hn
  split at hv
  case h_2 => cases hv
  rename_i e3
  have e1 := Nat.eq_of_beq_eq_true e1
  have e2 := Nat.eq_of_beq_eq_true e2
  have e3 := Nat.eq_of_beq_eq_true e3
  subst e1; subst e2; subst e3
  split at hv
  case h_2 => cases hv
  rename_i v' M' hl
  simp only [Option.some.injEq] at hv; subst hv
  have hVx := opnd_ok hInv.sr.tm hx
  obtain ⟨p, hp, hxe⟩ := hVx.ptr_inv
  obtain ⟨p0, hp0⟩ := hH _ hmem
  have hpp : p0 = p := by
    have := hInv.late _ _ hp0
    simp only at this
    rw [hp] at this
    simpa using this.symm
  subst hpp
  have hsame : ∀ w', KH H E0 ws i w' → ∀ j, j < n → w'.cell? ⟨p0.1, p0.2.1 + (f + j), none⟩ = w.cell? ⟨p0.1, p0.2.1 + (f + j), none⟩ := fun w' hK j hj =>
    (hK _ hmem rfl p0 hp0 j hj).trans (hInv.held i hb _ hmem rfl p0 hp0 j hj).symm
  rw [aload_eq] at hl
  simp only at hl
  split at hl
  case h_2 => cases hl
  rename_i K hK
  have mr := hInv.sr.mr
  unfold loadLen at hn
  split at hl
  · rename_i ha
    rw [ha] at hn
    simp only at hn
    split at hl
    case h_2 => cases hl
    rename_i m hm
    rw [hm] at hn
    simp only [Option.some.injEq] at hn; subst hn
    split at hl
    case h_2 => cases hl
    rename_i l hl'
    simp only [Option.some.injEq, Prod.mk.injEq] at hl
    obtain ⟨rfl, rfl⟩ := hl
    obtain ⟨xs, hxV, hrun⟩ := mr.loadCells P hK hp hl'
    have hxl := hxV.length
    rw [Blk.getL_len hl'] at hxl
    have hcell : ∀ j y, xs[j]? = some y → w.cell? ((⟨p0.1, p0.2.1 + f, none⟩ : Addr).add j) = some y := by
      intro j y hj
      have hjl : j < m := by rw [← hxl]; exact (List.getElem?_eq_some_iff.1 hj).1
      have h1 := Blk.getL_get hl' j hjl
      have h2 : j < l.length := by rw [Blk.getL_len hl']; exact hjl
      rw [List.getElem?_eq_getElem h2] at h1
      obtain ⟨z, hz, hzV, _⟩ := mr.cell hK hp h1
      rw [add_at, Nat.add_assoc, hz]
      have hr := run_loadCells_list (P := P) (w := w) ⟨p0.1, p0.2.1 + f, none⟩ ((List.range m).map fun i => (w.cell? ⟨p0.1, p0.2.1 + (f + i), none⟩).getD undef) (fun j' v' hj' => by
        have hj2 : j' < m := by have := (List.getElem?_eq_some_iff.1 hj').1; simpa using this
        have g1 := Blk.getL_get hl' j' hj2
        have g2 : j' < l.length := by rw [Blk.getL_len hl']; exact hj2
        rw [List.getElem?_eq_getElem g2] at g1
        obtain ⟨z', hz', _, _⟩ := mr.cell hK hp g1
        rw [add_at, Nat.add_assoc, hz']
        simp only [List.getElem?_map, List.getElem?_range hj2, Option.map_some, hz', Option.getD_some, Option.some.injEq] at hj'
        rw [hj'])
      rw [show ((List.range m).map fun i => (w.cell? ⟨p0.1, p0.2.1 + (f + i), none⟩).getD undef).length = m from by simp] at hr
      rw [hr] at hrun
      simp only [Result.ok.injEq, and_true] at hrun
      have hxs : xs = (List.range m).map fun i => (w.cell? ⟨p0.1, p0.2.1 + (f + i), none⟩).getD undef := by
        have := congrArg Array.toList hrun
        simpa using this.symm
      rw [hxs] at hj
      simp only [List.getElem?_map, List.getElem?_range hjl, Option.map_some, hz, Option.getD_some, Option.some.injEq] at hj
      rw [hj]
    refine ⟨.agg xs.toArray, fun w' hK' => ?_, by simp only [V]; exact ⟨_, rfl, hxV⟩⟩
    have hr' := run_loadCells_list (P := P) (w := w') ⟨p0.1, p0.2.1 + f, none⟩ xs (fun j y hj => by
      have hjl : j < m := by rw [← hxl]; exact (List.getElem?_eq_some_iff.1 hj).1
      have := hcell j y hj
      rw [add_at, Nat.add_assoc] at this ⊢
      rw [hsame w' hK' j hjl]; exact this)
    rw [hxl] at hr'
    simp only [execOp, hxe]
    refine run_value ?_
    simp [Instr.loadAt, Instr.sureAddr, loadVar, run_isAgg' ha, run_sizeOf' hm, hr']
  · rename_i ha
    rw [ha] at hn
    simp only [Option.some.injEq] at hn
    split at hl
    case h_2 => cases hl
    rename_i u hu
    simp only [Option.some.injEq, Prod.mk.injEq] at hl
    obtain ⟨rfl, rfl⟩ := hl
    obtain ⟨y, hy, hyV, _⟩ := mr.cell hK hp hu
    refine ⟨y, fun w' hK' => ?_, hyV⟩
    have := hsame w' hK' 0 (by omega)
    rw [Nat.add_zero] at this
    simp only [execOp, hxe]
    refine run_value ?_
    simp only [Instr.loadAt, Instr.sureAddr, Sem.run_bind, Sem.run_pure, Result.andThen_ok, loadVar, run_isAgg' ha, Bool.false_eq_true, if_false]
    exact run_load_cell (by rw [this]; exact hy)
  · cases hl
end

end Go.Proofs.YtnidkdjapieinaaDoor.Ev
