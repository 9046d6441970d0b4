/- A little machine that runs Go code on values whose blocks have numbers of its own: values, memory, what each stands for. No program is walked here. -/
import Derived.WalkKit
import Derived.Orders
import Derived.OrdersHeld
import Derived.Laws.StructEq
import Derived.Laws.IdiomCopy
noncomputable section
namespace Go.Proofs.YtnidkdjapieinaaDoor.Ev
open Go.RowKit
set_option linter.unusedSimpArgs false
set_option linter.unusedVariables false

/-! ### A trie over numbers -/
inductive T (α : Type) where
  | nil
  | node (v : Option α) (l r : T α)

/- (Typed by their recursors: the kernel runs them.) -/
noncomputable def T.get {α : Type} (t : T α) : Nat → Option α :=
  T.rec (motive := fun _ => Nat → Option α) (fun _ => none)
    (fun v _ _ gl gr i => Nat.rec (motive := fun _ => Option α) v (fun i _ => Bool.rec (motive := fun _ => Option α) (gr (Nat.div i 2)) (gl (Nat.div i 2)) (Nat.beq (Nat.mod i 2) 0)) i) t
noncomputable def T.single {α : Type} (x : α) (f : Nat) : Nat → T α :=
  Nat.rec (motive := fun _ => Nat → T α) (fun _ => .nil)
    (fun _ s i => Nat.rec (motive := fun _ => T α) (.node (some x) .nil .nil) (fun i _ => Bool.rec (motive := fun _ => T α) (.node none .nil (s (Nat.div i 2))) (.node none (s (Nat.div i 2)) .nil) (Nat.beq (Nat.mod i 2) 0)) i) f
noncomputable def T.set {α : Type} (f : Nat) (t : T α) (i : Nat) (x : α) : T α :=
  T.rec (motive := fun _ => Nat → T α) (fun i => T.single x f i)
    (fun v l r sl sr i => Nat.rec (motive := fun _ => T α) (.node (some x) l r) (fun i _ => Bool.rec (motive := fun _ => T α) (.node v l (sr (Nat.div i 2))) (.node v (sl (Nat.div i 2)) r) (Nat.beq (Nat.mod i 2) 0)) i) t i

theorem T.get_nil {α : Type} (i : Nat) : (T.nil : T α).get i = none := rfl
theorem T.get_zero {α : Type} (v : Option α) (l r : T α) : (T.node v l r).get 0 = v := rfl
theorem T.get_even {α : Type} (v : Option α) (l r : T α) (i : Nat) (h : i % 2 = 0) : (T.node v l r).get (i + 1) = l.get (i / 2) := by
  show Bool.rec (motive := fun _ => Option α) (r.get (i / 2)) (l.get (i / 2)) (Nat.beq (i % 2) 0) = _
  rw [h]; rfl
theorem T.get_odd {α : Type} (v : Option α) (l r : T α) (i : Nat) (h : ¬ i % 2 = 0) : (T.node v l r).get (i + 1) = r.get (i / 2) := by
  show Bool.rec (motive := fun _ => Option α) (r.get (i / 2)) (l.get (i / 2)) (Nat.beq (i % 2) 0) = _
  have : Nat.beq (i % 2) 0 = false := by cases e : Nat.beq (i % 2) 0 with | true => exact absurd (Nat.eq_of_beq_eq_true e) h | false => rfl
  rw [this]
theorem T.get_node {α : Type} (v : Option α) (l r : T α) (i : Nat) : (T.node v l r).get (i + 1) = if i % 2 = 0 then l.get (i / 2) else r.get (i / 2) := by
  by_cases h : i % 2 = 0
  · rw [if_pos h, T.get_even _ _ _ _ h]
  · rw [if_neg h, T.get_odd _ _ _ _ h]
theorem T.single_succ {α : Type} (x : α) (f i : Nat) : T.single x (f + 1) (i + 1) = if i % 2 = 0 then .node none (T.single x f (i / 2)) .nil else .node none .nil (T.single x f (i / 2)) := by
  show Bool.rec (motive := fun _ => T α) (.node none .nil (T.single x f (i / 2))) (.node none (T.single x f (i / 2)) .nil) (Nat.beq (i % 2) 0) = _
  by_cases h : i % 2 = 0
  · rw [if_pos h, h]; rfl
  · have : Nat.beq (i % 2) 0 = false := by cases e : Nat.beq (i % 2) 0 with | true => exact absurd (Nat.eq_of_beq_eq_true e) h | false => rfl
    rw [if_neg h, this]
theorem T.set_node {α : Type} (f : Nat) (v : Option α) (l r : T α) (i : Nat) (x : α) : T.set f (T.node v l r) (i + 1) x = if i % 2 = 0 then .node v (T.set f l (i / 2) x) r else .node v l (T.set f r (i / 2) x) := by
  show Bool.rec (motive := fun _ => T α) (.node v l (T.set f r (i / 2) x)) (.node v (T.set f l (i / 2) x) r) (Nat.beq (i % 2) 0) = _
  by_cases h : i % 2 = 0
  · rw [if_pos h, h]; rfl
  · have : Nat.beq (i % 2) 0 = false := by cases e : Nat.beq (i % 2) 0 with | true => exact absurd (Nat.eq_of_beq_eq_true e) h | false => rfl
    rw [if_neg h, this]

theorem T.get_single {α : Type} (x : α) : ∀ (f i j : Nat), i < f → (T.single x f i).get j = if i = j then some x else none := by
  intro f
  induction f with
  | zero => intro i j h; omega
  | succ f ih =>
    intro i j h
    cases i with
    | zero =>
      show (T.node (some x) .nil .nil).get j = _
      cases j with
      | zero => rfl
      | succ j => rw [T.get_node, if_neg (show ¬ 0 = j + 1 by omega)]; split <;> rfl
    | succ i =>
      rw [T.single_succ]
      by_cases h1 : i % 2 = 0
      · rw [if_pos h1]
        cases j with
        | zero => rw [T.get_zero, if_neg (by omega)]
        | succ j =>
          rw [T.get_node]
          by_cases h2 : j % 2 = 0
          · rw [if_pos h2, ih _ _ (by omega)]
            by_cases e : i = j
            · subst e; simp
            · rw [if_neg (by omega), if_neg (by omega)]
          · rw [if_neg h2, T.get_nil, if_neg (by omega)]
      · rw [if_neg h1]
        cases j with
        | zero => rw [T.get_zero, if_neg (by omega)]
        | succ j =>
          rw [T.get_node]
          by_cases h2 : j % 2 = 0
          · rw [if_pos h2, T.get_nil, if_neg (by omega)]
          · rw [if_neg h2, ih _ _ (by omega)]
            by_cases e : i = j
            · subst e; simp
            · rw [if_neg (by omega), if_neg (by omega)]
theorem T.get_set {α : Type} (x : α) (f : Nat) : ∀ (t : T α) (i j : Nat), i < f → (T.set f t i x).get j = if i = j then some x else t.get j := by
  intro t
  induction t with
  | nil => intro i j h; exact T.get_single x f i j h
  | node v l r ihl ihr =>
    intro i j h
    cases i with
    | zero =>
      show (T.node (some x) l r).get j = _
      cases j with
      | zero => rfl
      | succ j => rw [T.get_node, T.get_node, if_neg (show ¬ 0 = j + 1 by omega)]
    | succ i =>
      rw [T.set_node]
      by_cases h1 : i % 2 = 0
      · rw [if_pos h1]
        cases j with
        | zero => rw [T.get_zero, T.get_zero, if_neg (by omega)]
        | succ j =>
          rw [T.get_node, T.get_node]
          by_cases h2 : j % 2 = 0
          · rw [if_pos h2, if_pos h2, ihl _ _ (by omega)]
            by_cases e : i = j
            · subst e; simp
            · rw [if_neg (by omega), if_neg (by omega)]
          · rw [if_neg h2, if_neg h2, if_neg (by omega)]
      · rw [if_neg h1]
        cases j with
        | zero => rw [T.get_zero, T.get_zero, if_neg (by omega)]
        | succ j =>
          rw [T.get_node, T.get_node]
          by_cases h2 : j % 2 = 0
          · rw [if_pos h2, if_pos h2, if_neg (by omega)]
          · rw [if_neg h2, if_neg h2, ihr _ _ (by omega)]
            by_cases e : i = j
            · subst e; simp
            · rw [if_neg (by omega), if_neg (by omega)]

/-! ### Values -/
inductive AV where
  | bool (b : Bool)
  | int (k : IntKind) (n : Int)
  | str (l : List Nat)
  | ptr (b o : Nat)
  | nptr
  /-- a slice whose capacity is known -/
  | slice (b o n c : Nat)
  /-- a slice whose capacity reaches to its block's end, elements of z cells -/
  | slic (b o n z : Nat)
  | nslice
  /-- a slice of capacity 0 that is not nil -/
  | emp
  | map (b : Nat)
  | nmap
  | fn (f : FuncId) (first captured : List AV)
  | nfn
  | iface (t : TypeId) (v : AV)
  | niface
  | agg (l : List AV)
  | tup (l : List AV)
  /-- a value of which nothing is asked -/
  | opq (i : Nat)

def bytes (l : List Nat) : ByteArray := ⟨(l.map UInt8.ofNat).toArray⟩

/-- Where a block lies: its number, the first cell, how many cells. -/
abbrev Env := Nat → Option (Nat × Nat × Nat)
def Env.le (E E' : Env) : Prop := ∀ b p, E b = some p → E' b = some p
theorem Env.le_refl (E : Env) : E.le E := fun _ _ h => h
theorem Env.le_trans {A B C : Env} (h : A.le B) (k : B.le C) : A.le C := fun b p e => k b p (h b p e)

mutual
/-- What a value stands for. -/
def V (ν : Nat → Value) (E : Env) : AV → Value → Prop
  | .bool b, x => x = .bool b
  | .int k n, x => x = .int k n
  | .str l, x => x = .string (bytes l) ∧ ∀ c ∈ l, c < 256
  | .ptr b o, x => ∃ p, E b = some p ∧ x = .pointer (some ⟨p.1, p.2.1 + o, none⟩)
  | .nptr, x => x = .pointer none
  | .slice b o n c, x => ∃ p, E b = some p ∧ x = .slice (some ⟨p.1, p.2.1 + o, none⟩) n c
  | .slic b o n z, x => ∃ p c o', E b = some p ∧ x = .slice (some ⟨p.1, o', none⟩) n c ∧ n ≤ c ∧ o + c * z = p.2.2 ∧ 0 < z ∧ (0 < c → o' = p.2.1 + o)
  | .nslice, x => x = .slice none 0 0
  | .emp, x => ∃ a, x = .slice (some a) 0 0 ∧ a.spot = none
  | .map b, x => ∃ p, E b = some p ∧ x = .map (some p.1)
  | .nmap, x => x = .map none
  | .fn f fs cs, x => ∃ as bs, x = .func (.func f) as bs ∧ VL ν E fs as.toList ∧ VL ν E cs bs.toList
  | .nfn, x => x = .nilFunc
  | .iface t v, x => ∃ y, x = .iface t y ∧ V ν E v y
  | .niface, x => x = .nilIface
  | .agg l, x => ∃ as, x = .agg as ∧ VL ν E l as.toList
  | .tup l, x => ∃ as, x = .tuple as ∧ VL ν E l as.toList
  | .opq i, x => x = ν i ∧ x.oneCell' = true
def VL (ν : Nat → Value) (E : Env) : List AV → List Value → Prop
  | [], xs => xs = []
  | v :: vs, xs => ∃ y ys, xs = y :: ys ∧ V ν E v y ∧ VL ν E vs ys
end

mutual
theorem V.mono {ν : Nat → Value} {E E' : Env} (h : E.le E') : ∀ (v : AV) (x : Value), V ν E v x → V ν E' v x
  | .bool _, x, k => by simpa only [V] using k
  | .int _ _, x, k => by simpa only [V] using k
  | .str _, x, k => by simpa only [V] using k
  | .ptr b o, x, k => by simp only [V] at k ⊢; obtain ⟨p, e, k⟩ := k; exact ⟨p, h _ _ e, k⟩
  | .nptr, x, k => by simpa only [V] using k
  | .slice b o n c, x, k => by simp only [V] at k ⊢; obtain ⟨p, e, k⟩ := k; exact ⟨p, h _ _ e, k⟩
  | .slic b o n z, x, k => by simp only [V] at k ⊢; obtain ⟨p, c, o', e, k⟩ := k; exact ⟨p, c, o', h _ _ e, k⟩
  | .nslice, x, k => by simpa only [V] using k
  | .emp, x, k => by simpa only [V] using k
  | .map b, x, k => by simp only [V] at k ⊢; obtain ⟨p, e, k⟩ := k; exact ⟨p, h _ _ e, k⟩
  | .nmap, x, k => by simpa only [V] using k
  | .fn f fs cs, x, k => by
    simp only [V] at k ⊢
    obtain ⟨as, bs, e, k1, k2⟩ := k
    exact ⟨as, bs, e, VL.mono h fs _ k1, VL.mono h cs _ k2⟩
  | .nfn, x, k => by simpa only [V] using k
  | .iface t v, x, k => by
    simp only [V] at k ⊢
    obtain ⟨y, e, k1⟩ := k
    exact ⟨y, e, V.mono h v _ k1⟩
  | .niface, x, k => by simpa only [V] using k
  | .agg l, x, k => by
    simp only [V] at k ⊢
    obtain ⟨as, e, k1⟩ := k
    exact ⟨as, e, VL.mono h l _ k1⟩
  | .tup l, x, k => by
    simp only [V] at k ⊢
    obtain ⟨as, e, k1⟩ := k
    exact ⟨as, e, VL.mono h l _ k1⟩
  | .opq i, x, k => by simpa only [V] using k
theorem VL.mono {ν : Nat → Value} {E E' : Env} (h : E.le E') : ∀ (l : List AV) (xs : List Value), VL ν E l xs → VL ν E' l xs
  | [], xs, k => by simpa only [VL] using k
  | v :: vs, xs, k => by
    simp only [VL] at k ⊢
    obtain ⟨y, ys, e, k1, k2⟩ := k
    exact ⟨y, ys, e, V.mono h v _ k1, VL.mono h vs _ k2⟩
end

section
variable {ν : Nat → Value} {E : Env}
theorem VL.length : ∀ {l : List AV} {xs : List Value}, VL ν E l xs → xs.length = l.length
  | [], xs, k => by simp only [VL] at k; subst k; rfl
  | v :: vs, xs, k => by
    simp only [VL] at k
    obtain ⟨y, ys, rfl, _, k2⟩ := k
    simp [VL.length k2]
theorem VL.get : ∀ {l : List AV} {xs : List Value}, VL ν E l xs → ∀ {i : Nat} {v : AV}, l[i]? = some v → ∃ x, xs[i]? = some x ∧ V ν E v x
  | [], xs, k, i, v, h => by simp at h
  | u :: us, xs, k, i, v, h => by
    simp only [VL] at k
    obtain ⟨y, ys, rfl, k1, k2⟩ := k
    cases i with
    | zero => simp at h; subst h; exact ⟨y, rfl, k1⟩
    | succ i => simp at h; simpa using VL.get k2 h
theorem VL.of_get : ∀ {l : List AV} {xs : List Value}, xs.length = l.length → (∀ (i : Nat) (v : AV) (x : Value), l[i]? = some v → xs[i]? = some x → V ν E v x) → VL ν E l xs
  | [], xs, hl, h => by cases xs with | nil => simp only [VL] | cons => simp at hl
  | u :: us, xs, hl, h => by
    cases xs with
    | nil => simp at hl
    | cons y ys =>
      simp only [VL]
      exact ⟨y, ys, rfl, h 0 u y rfl rfl, VL.of_get (by simpa using hl) fun i v x h1 h2 => h (i + 1) v x (by simpa using h1) (by simpa using h2)⟩
theorem VL.append : ∀ {l m : List AV} {xs ys : List Value}, VL ν E l xs → VL ν E m ys → VL ν E (l ++ m) (xs ++ ys)
  | [], m, xs, ys, k, h => by simp only [VL] at k; subst k; simpa using h
  | u :: us, m, xs, ys, k, h => by
    simp only [VL] at k
    obtain ⟨y, zs, rfl, k1, k2⟩ := k
    simp only [List.cons_append, VL]
    exact ⟨y, _, rfl, k1, VL.append k2 h⟩
theorem VL.set {l : List AV} {xs : List Value} (k : VL ν E l xs) (i : Nat) {v : AV} {x : Value} (h : V ν E v x) : VL ν E (l.set i v) (xs.set i x) := by
  refine VL.of_get (by simp [k.length]) fun j u y h1 h2 => ?_
  rw [List.getElem?_set] at h1 h2
  split at h1
  · rename_i e
    subst e
    rw [if_pos rfl] at h2
    split at h1
    · split at h2
      · simp at h1 h2; subst h1; subst h2; exact h
      · simp at h2
    · simp at h1
  · rename_i e
    rw [if_neg e] at h2
    obtain ⟨z, hz, hv⟩ := k.get h1
    rw [hz] at h2
    simp at h2
    subst h2
    exact hv
theorem VL.nil_iff {xs : List Value} : VL ν E [] xs ↔ xs = [] := by simp only [VL]
theorem VL.cons_mk {v : AV} {vs : List AV} {x : Value} {xs : List Value} (h : V ν E v x) (k : VL ν E vs xs) : VL ν E (v :: vs) (x :: xs) := by
  simp only [VL]; exact ⟨x, xs, rfl, h, k⟩
theorem VL.take {l : List AV} {xs : List Value} (k : VL ν E l xs) (n : Nat) : VL ν E (l.take n) (xs.take n) := by
  refine VL.of_get (by simp [k.length]) fun j u y h1 h2 => ?_
  rw [List.getElem?_take] at h1 h2
  split at h1
  · rename_i hj
    rw [if_pos hj] at h2
    obtain ⟨z, hz, hv⟩ := k.get h1
    rw [hz] at h2; simp at h2; subst h2; exact hv
  · simp at h1
theorem VL.drop {l : List AV} {xs : List Value} (k : VL ν E l xs) (n : Nat) : VL ν E (l.drop n) (xs.drop n) := by
  refine VL.of_get (by simp [k.length]) fun j u y h1 h2 => ?_
  rw [List.getElem?_drop] at h1 h2
  obtain ⟨z, hz, hv⟩ := k.get h1
  rw [hz] at h2; simp at h2; subst h2; exact hv
end

def AV.cells : AV → List AV
  | .agg l => l
  | v => [v]
/-- A value of one cell. -/
def AV.one : AV → Bool
  | .agg _ | .tup _ => false
  | _ => true
theorem V.cells {ν : Nat → Value} {E : Env} {v : AV} {x : Value} (h : V ν E v x) : VL ν E v.cells x.cells.toList := by
  cases v <;> simp only [V] at h
  case agg l => obtain ⟨as, rfl, k⟩ := h; exact k
  case opq i =>
    obtain ⟨rfl, h1⟩ := h
    have : (ν i).cells = #[ν i] := by
      revert h1
      cases ν i <;> simp [Value.cells, Value.oneCell']
    rw [this]
    exact VL.cons_mk (by simp only [V]; exact ⟨trivial, h1⟩) (by simp only [VL])
  case tup l =>
    obtain ⟨as, rfl, k⟩ := h
    exact VL.cons_mk (by simp only [V]; exact ⟨as, rfl, k⟩) (by simp only [VL])
  case ptr b o => obtain ⟨p, e, rfl⟩ := h; exact VL.cons_mk (by simp only [V]; exact ⟨p, e, rfl⟩) (by simp only [VL])
  case slice b o n c => obtain ⟨p, e, rfl⟩ := h; exact VL.cons_mk (by simp only [V]; exact ⟨p, e, rfl⟩) (by simp only [VL])
  case slic b o n z => obtain ⟨p, c, o', e, rfl, k⟩ := h; exact VL.cons_mk (by simp only [V]; exact ⟨p, c, o', e, rfl, k⟩) (by simp only [VL])
  case emp => obtain ⟨a, rfl, k⟩ := h; exact VL.cons_mk (by simp only [V]; exact ⟨a, rfl, k⟩) (by simp only [VL])
  case map b => obtain ⟨p, e, rfl⟩ := h; exact VL.cons_mk (by simp only [V]; exact ⟨p, e, rfl⟩) (by simp only [VL])
  case fn f fs cs => obtain ⟨as, bs, rfl, k⟩ := h; exact VL.cons_mk (by simp only [V]; exact ⟨as, bs, rfl, k⟩) (by simp only [VL])
  case iface t v => obtain ⟨y, rfl, k⟩ := h; exact VL.cons_mk (by simp only [V]; exact ⟨y, rfl, k⟩) (by simp only [VL])
  case str l => obtain ⟨rfl, k⟩ := h; exact VL.cons_mk (by simp only [V]; exact ⟨trivial, k⟩) (by simp only [VL])
  all_goals (subst h; exact VL.cons_mk (by simp only [V]) (by simp only [VL]))
theorem V.one {ν : Nat → Value} {E : Env} {v : AV} {x : Value} (h : V ν E v x) (h1 : v.one = true) : x.oneCell' = true := by
  cases v <;> simp only [V] at h <;> simp only [AV.one] at h1
  case opq => exact h.2
  all_goals first
    | (subst h; rfl)
    | (obtain ⟨rfl, _⟩ := h; rfl)
    | (obtain ⟨_, _, rfl⟩ := h; rfl)
    | (obtain ⟨_, rfl, _⟩ := h; rfl)
    | (obtain ⟨_, _, _, _, rfl, _⟩ := h; rfl)
    | (obtain ⟨_, _, rfl, _⟩ := h; rfl)
    | (cases h1)

/-! ### Constants -/
mutual
def AV.ofValue : Value → Option AV
  | .bool b => some (.bool b)
  | .int k n => some (.int k n)
  | .string s => some (.str (s.data.toList.map UInt8.toNat))
  | .pointer none => some .nptr
  | .slice none 0 0 => some .nslice
  | .map none => some .nmap
  | .nilFunc => some .nfn
  | .nilIface => some .niface
  | .agg ⟨l⟩ => match AV.ofValues l with
    | some l => some (.agg l)
    | none => none
  | .tuple ⟨l⟩ => match AV.ofValues l with
    | some l => some (.tup l)
    | none => none
  | _ => none
def AV.ofValues : List Value → Option (List AV)
  | [] => some []
  | x :: xs => match AV.ofValue x, AV.ofValues xs with
    | some v, some vs => some (v :: vs)
    | _, _ => none
end
/-! ### views of values -/
def AV.asPtr (v : AV) : Option (Nat × Nat) := AV.rec (motive_1 := fun _ => Option (Nat × Nat)) (motive_2 := fun _ => Option (Nat × Nat)) (fun _ => none) (fun _ _ => none) (fun _ => none) (fun b o => some (b, o)) none (fun _ _ _ _ => none) (fun _ _ _ _ => none) none none (fun _ => none) none (fun _ _ _ _ _ => none) none (fun _ _ _ => none) none (fun _ _ => none) (fun _ _ => none) (fun _ => none) none (fun _ _ _ _ => none) v
def AV.asInt (v : AV) : Option (IntKind × Int) := AV.rec (motive_1 := fun _ => Option (IntKind × Int)) (motive_2 := fun _ => Option (IntKind × Int)) (fun _ => none) (fun k n => some (k, n)) (fun _ => none) (fun _ _ => none) none (fun _ _ _ _ => none) (fun _ _ _ _ => none) none none (fun _ => none) none (fun _ _ _ _ _ => none) none (fun _ _ _ => none) none (fun _ _ => none) (fun _ _ => none) (fun _ => none) none (fun _ _ _ _ => none) v
/-- A truth value, or nothing at all. -/
def AV.asTruth (v : AV) : Option (Option Bool) := AV.rec (motive_1 := fun _ => Option (Option Bool)) (motive_2 := fun _ => Option (Option Bool)) (fun b => some (some b)) (fun _ _ => none) (fun _ => none) (fun _ _ => none) none (fun _ _ _ _ => none) (fun _ _ _ _ => none) none none (fun _ => none) none (fun _ _ _ _ _ => none) none (fun _ _ _ => none) none (fun _ _ => none) (fun _ _ => some none) (fun _ => none) none (fun _ _ _ _ => none) v
def valInt (v : Value) : Option (IntKind × Int) := Value.rec (motive_1 := fun _ => Option (IntKind × Int)) (motive_2 := fun _ => Option (IntKind × Int)) (motive_3 := fun _ => Option (IntKind × Int))
  (fun _ => none) (fun k n => some (k, n)) (fun _ _ => none) (fun _ _ _ => none) (fun _ => none) (fun _ => none) (fun _ _ _ => none) (fun _ => none) (fun _ => none) (fun _ _ _ _ _ => none) none (fun _ _ _ => none) none (fun _ _ => none) (fun _ _ => none) (fun _ _ => none) none (fun _ _ _ _ => none) v
def constV (v : Value) : Option AV := Option.rec (motive := fun _ => Option AV) (AV.ofValue v) (fun p => some (.int p.1 p.2)) (valInt v)
theorem constV_eq (v : Value) : constV v = AV.ofValue v := by
  cases v with
  | int k n => unfold constV; simp only [AV.ofValue]; rfl
  | _ => rfl
theorem bytes_back (s : ByteArray) : bytes (s.data.toList.map UInt8.toNat) = s := by
  obtain ⟨⟨l⟩⟩ := s
  simp [bytes, Function.comp_def]
mutual
theorem V.ofValue {ν : Nat → Value} {E : Env} : ∀ (x : Value) (v : AV), AV.ofValue x = some v → V ν E v x
  | .bool b, v, h => by simp only [AV.ofValue, Option.some.injEq] at h; subst h; simp only [V]
  | .int k n, v, h => by simp only [AV.ofValue, Option.some.injEq] at h; subst h; simp only [V]
  | .string s, v, h => by simp only [AV.ofValue, Option.some.injEq] at h; subst h; simp only [V, bytes_back]; exact ⟨trivial, fun c hc => by obtain ⟨u, _, rfl⟩ := List.mem_map.1 hc; exact u.toNat_lt⟩
  | .pointer none, v, h => by simp only [AV.ofValue, Option.some.injEq] at h; subst h; simp only [V]
  | .pointer (some _), v, h => by simp [AV.ofValue] at h
  | .slice none 0 0, v, h => by simp only [AV.ofValue, Option.some.injEq] at h; subst h; simp only [V]
  | .slice none 0 (_ + 1), v, h => by simp [AV.ofValue] at h
  | .slice none (_ + 1) _, v, h => by simp [AV.ofValue] at h
  | .slice (some _) _ _, v, h => by simp [AV.ofValue] at h
  | .map none, v, h => by simp only [AV.ofValue, Option.some.injEq] at h; subst h; simp only [V]
  | .map (some _), v, h => by simp [AV.ofValue] at h
  | .nilFunc, v, h => by simp only [AV.ofValue, Option.some.injEq] at h; subst h; simp only [V]
  | .nilIface, v, h => by simp only [AV.ofValue, Option.some.injEq] at h; subst h; simp only [V]
  | .agg ⟨l⟩, v, h => by
    simp only [AV.ofValue] at h
    cases e : AV.ofValues l with
    | none => rw [e] at h; simp at h
    | some m =>
      rw [e] at h; simp only [Option.some.injEq] at h; subst h; simp only [V]
      exact ⟨_, rfl, VL.ofValues l m e⟩
  | .tuple ⟨l⟩, v, h => by
    simp only [AV.ofValue] at h
    cases e : AV.ofValues l with
    | none => rw [e] at h; simp at h
    | some m =>
      rw [e] at h; simp only [Option.some.injEq] at h; subst h; simp only [V]
      exact ⟨_, rfl, VL.ofValues l m e⟩
  | .float _ _, v, h => by simp [AV.ofValue] at h
  | .complex _ _ _, v, h => by simp [AV.ofValue] at h
  | .chan _, v, h => by simp [AV.ofValue] at h
  | .func _ _ _, v, h => by simp [AV.ofValue] at h
  | .iface _ _, v, h => by simp [AV.ofValue] at h
theorem VL.ofValues {ν : Nat → Value} {E : Env} : ∀ (xs : List Value) (vs : List AV), AV.ofValues xs = some vs → VL ν E vs xs
  | [], vs, h => by simp only [AV.ofValues, Option.some.injEq] at h; subst h; simp only [VL]
  | x :: xs, vs, h => by
    simp only [AV.ofValues] at h
    cases e1 : AV.ofValue x with
    | none => rw [e1] at h; simp at h
    | some v =>
      cases e2 : AV.ofValues xs with
      | none => rw [e1, e2] at h; simp at h
      | some us =>
        rw [e1, e2] at h; simp only [Option.some.injEq] at h; subst h
        exact VL.cons_mk (V.ofValue x v e1) (VL.ofValues xs us e2)
end

end Go.Proofs.YtnidkdjapieinaaDoor.Ev
