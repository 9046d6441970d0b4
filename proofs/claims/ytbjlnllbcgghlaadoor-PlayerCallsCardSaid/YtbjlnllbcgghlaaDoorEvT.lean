/- Tables of facts on whole numbers of which nothing else is known, for the little machine. No program is walked here. -/
import Derived.Test.YtbjlnllbcgghlaaDoorEvQ
noncomputable section
namespace Go.Proofs.YtbjlnllbcgghlaaDoor.Ev
open Go.RowKit
set_option linter.unusedSimpArgs false
set_option linter.unusedVariables false

structure BinF where
  op : BinOp
  a : AV
  b : AV
  r : AV
structure UnF where
  op : UnOp
  a : AV
  r : AV
def findB (op : BinOp) (a b : AV) : List BinF → Option AV
  | [] => none
  | f :: fs => match decide (f.op = op) with
    | true => match AV.beq f.a a with
      | true => match AV.beq f.b b with
        | true => some f.r
        | false => findB op a b fs
      | false => findB op a b fs
    | false => findB op a b fs
def findU (op : UnOp) (a : AV) : List UnF → Option AV
  | [] => none
  | f :: fs => match decide (f.op = op) with
    | true => match AV.beq f.a a with
      | true => some f.r
      | false => findU op a fs
    | false => findU op a fs
def table (l : List BinF) (u : List UnF) : Facts := ⟨fun op a b => findB op a b l, fun op a => findU op a u, fun _ _ _ => none⟩
structure BinF.Ok (P : Program) (ν : Nat → Value) (f : BinF) : Prop where
  ok : ∀ {E : Env} {t : TypeId} {xo yo : Operand} {x y : Value}, V ν E f.a x → V ν E f.b y →
    ∃ z, (∀ w, (do eqGuard f.op t xo yo x y; binOp f.op t x y : Sem Value).run P w = .ok z w) ∧ V ν E f.r z
structure UnF.Ok (P : Program) (ν : Nat → Value) (f : UnF) : Prop where
  ok : ∀ {E : Env} {x : Value}, V ν E f.a x → ∃ z, (∀ w, (Op.unary f.op x).run P w = .ok z w) ∧ V ν E f.r z

section
variable {P : Program} {ν : Nat → Value}
theorem findB_ok {op : BinOp} {a b r : AV} : ∀ {l : List BinF}, findB op a b l = some r → ∃ f ∈ l, f.op = op ∧ f.a = a ∧ f.b = b ∧ f.r = r
  | [], h => by cases h
  | f :: fs, h => by
    simp only [findB] at h
    split at h
    · rename_i h1
      split at h
      · rename_i h2
        split at h
        · rename_i h3
          simp only [Option.some.injEq] at h
          exact ⟨f, by simp, of_decide_eq_true h1, AV.eq_of_beq _ _ h2, AV.eq_of_beq _ _ h3, h⟩
        · obtain ⟨g, hg, k⟩ := findB_ok h; exact ⟨g, by simp [hg], k⟩
      · obtain ⟨g, hg, k⟩ := findB_ok h; exact ⟨g, by simp [hg], k⟩
    · obtain ⟨g, hg, k⟩ := findB_ok h; exact ⟨g, by simp [hg], k⟩
theorem findU_ok {op : UnOp} {a r : AV} : ∀ {l : List UnF}, findU op a l = some r → ∃ f ∈ l, f.op = op ∧ f.a = a ∧ f.r = r
  | [], h => by cases h
  | f :: fs, h => by
    simp only [findU] at h
    split at h
    · rename_i h1
      split at h
      · rename_i h2
        simp only [Option.some.injEq] at h
        exact ⟨f, by simp, of_decide_eq_true h1, AV.eq_of_beq _ _ h2, h⟩
      · obtain ⟨g, hg, k⟩ := findU_ok h; exact ⟨g, by simp [hg], k⟩
    · obtain ⟨g, hg, k⟩ := findU_ok h; exact ⟨g, by simp [hg], k⟩
theorem table_ok {l : List BinF} {u : List UnF} (hl : ∀ f ∈ l, f.Ok P ν) (hu : ∀ f ∈ u, f.Ok P ν) : FactsOk P ν (table l u) where
  bin := fun {op a b r} h {E t xo yo x y} ha hb => by
    obtain ⟨f, hf, rfl, rfl, rfl, rfl⟩ := findB_ok h
    exact (hl f hf).ok ha hb
  un := fun {op a r} h {E x} ha => by
    obtain ⟨f, hf, rfl, rfl, rfl⟩ := findU_ok h
    exact (hu f hf).ok ha
  cv := fun {s d a r} h => by cases h

/-- What an operand is: a number, known or not. -/
def IsInt (ν : Nat → Value) (a : AV) (k : IntKind) (n : Int) : Prop := ∀ E x, V ν E a x → x = .int k n
theorem isInt_opq {i : Nat} {k : IntKind} {n : Int} (h : ν i = .int k n) : IsInt ν (.opq i) k n := fun E x hx => by simp only [V] at hx; rw [hx.1, h]
theorem isInt_int {k : IntKind} {n : Int} : IsInt ν (.int k n) k n := fun E x hx => hx.int_inv
theorem V_opq {E : Env} {i : Nat} {z : Value} (h : ν i = z) (h1 : z.oneCell' = true) : V ν E (.opq i) z := by simp only [V]; exact ⟨h.symm, h1⟩

theorem bin_ok {f : BinF} {k : IntKind} {m n : Int} {z : Value} (ha : IsInt ν f.a k m) (hb : IsInt ν f.b k n) (hz : ∀ t w, (binOp f.op t (.int k m) (.int k n)).run P w = .ok z w) (hr : ∀ E, V ν E f.r z) : f.Ok P ν := by
  refine ⟨fun {E t xo yo x y} hx hy => ?_⟩
  rw [ha _ _ hx, hb _ _ hy]
  exact ⟨z, fun w => by simp only [Sem.run_bind, run_eqGuard (P := P) f.op t xo yo (.int k m) (.int k n) (by simp) (by simp) w, Result.andThen_ok, hz], hr E⟩
theorem lss_ok {a b : AV} {k : IntKind} {m n : Int} {c : Bool} (ha : IsInt ν a k m) (hb : IsInt ν b k n) (h : decide (m < n) = c) : (⟨.lss, a, b, .bool c⟩ : BinF).Ok P ν :=
  bin_ok ha hb (z := .bool c) (fun t w => by subst h; simp [binOp, Op.intCmp]) fun E => by simp only [V]
theorem leq_ok {a b : AV} {k : IntKind} {m n : Int} {c : Bool} (ha : IsInt ν a k m) (hb : IsInt ν b k n) (h : decide (m ≤ n) = c) : (⟨.leq, a, b, .bool c⟩ : BinF).Ok P ν :=
  bin_ok ha hb (z := .bool c) (fun t w => by subst h; simp [binOp, Op.intCmp]) fun E => by simp only [V]
theorem gtr_ok {a b : AV} {k : IntKind} {m n : Int} {c : Bool} (ha : IsInt ν a k m) (hb : IsInt ν b k n) (h : decide (n < m) = c) : (⟨.gtr, a, b, .bool c⟩ : BinF).Ok P ν :=
  bin_ok ha hb (z := .bool c) (fun t w => by subst h; simp [binOp, Op.intCmp]) fun E => by simp only [V]
theorem geq_ok {a b : AV} {k : IntKind} {m n : Int} {c : Bool} (ha : IsInt ν a k m) (hb : IsInt ν b k n) (h : decide (n ≤ m) = c) : (⟨.geq, a, b, .bool c⟩ : BinF).Ok P ν :=
  bin_ok ha hb (z := .bool c) (fun t w => by subst h; simp [binOp, Op.intCmp]) fun E => by simp only [V]
theorem eql_ok {a b : AV} {k : IntKind} {m n : Int} {c : Bool} (ha : IsInt ν a k m) (hb : IsInt ν b k n) (h : decide (m = n) = c) : (⟨.eql, a, b, .bool c⟩ : BinF).Ok P ν :=
  bin_ok ha hb (z := .bool c) (fun t w => by subst h; simp [binOp, Op.intCmp]; rfl) fun E => by simp only [V]
theorem neq_ok {a b : AV} {k : IntKind} {m n : Int} {c : Bool} (ha : IsInt ν a k m) (hb : IsInt ν b k n) (h : decide (m = n) = c) : (⟨.neq, a, b, .bool (!c)⟩ : BinF).Ok P ν :=
  bin_ok ha hb (z := .bool (!c)) (fun t w => by subst h; simp [binOp, Op.intCmp]; rfl) fun E => by simp only [V]
theorem add_ok {a b : AV} {i : Nat} {k : IntKind} {m n : Int} (ha : IsInt ν a k m) (hb : IsInt ν b k n) (h : ν i = .int k (k.wrap (m + n))) : (⟨.add, a, b, .opq i⟩ : BinF).Ok P ν :=
  bin_ok ha hb (z := .int k (k.wrap (m + n))) (fun t w => by simp [binOp, Op.intArith]) fun E => V_opq h rfl
theorem mul_ok {a b : AV} {i : Nat} {k : IntKind} {m n : Int} (ha : IsInt ν a k m) (hb : IsInt ν b k n) (h : ν i = .int k (k.wrap (m * n))) : (⟨.mul, a, b, .opq i⟩ : BinF).Ok P ν :=
  bin_ok ha hb (z := .int k (k.wrap (m * n))) (fun t w => by simp [binOp, Op.intArith]) fun E => V_opq h rfl
theorem quo_ok {a b : AV} {i : Nat} {k : IntKind} {m n : Int} (ha : IsInt ν a k m) (hb : IsInt ν b k n) (h0 : n ≠ 0) (h : ν i = .int k (k.wrap (m.tdiv n))) : (⟨.quo, a, b, .opq i⟩ : BinF).Ok P ν :=
  bin_ok ha hb (z := .int k (k.wrap (m.tdiv n))) (fun t w => by simp [binOp, Op.intDiv, h0]) fun E => V_opq h rfl
theorem rem_ok {a b : AV} {i : Nat} {k : IntKind} {m n : Int} (ha : IsInt ν a k m) (hb : IsInt ν b k n) (h0 : n ≠ 0) (h : ν i = .int k (m.tmod n)) : (⟨.rem, a, b, .opq i⟩ : BinF).Ok P ν :=
  bin_ok ha hb (z := .int k (m.tmod n)) (fun t w => by simp [binOp, Op.intDiv, h0]) fun E => V_opq h rfl
theorem neg_ok {a : AV} {i : Nat} {k : IntKind} {m : Int} (ha : IsInt ν a k m) (h : ν i = .int k (k.wrap (0 - m))) : (⟨.neg, a, .opq i⟩ : UnF).Ok P ν := by
  refine ⟨fun {E x} hx => ?_⟩
  rw [ha _ _ hx]
  exact ⟨.int k (k.wrap (0 - m)), fun w => by simp only [Op.unary, Op.intArith]; rfl, V_opq h rfl⟩
end
end Go.Proofs.YtbjlnllbcgghlaaDoor.Ev
