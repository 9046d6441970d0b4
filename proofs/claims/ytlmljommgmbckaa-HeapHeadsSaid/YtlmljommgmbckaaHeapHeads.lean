/- 'HeapHeads' holds: heads are told by their three numbers, and unlike ones are unlike. No conditions. The little machine (the texts Ev..) is run by the kernel once for each way in which the six numbers can be refused or not, and are alike or not. -/
import Derived.Test.YtlmljommgmbckaaEvT
import Derived.Test.YtlmljommgmbckaaRows
import Derived.ProofKit
import Derived.OpenShut
import Derived.ShutString
import Derived.Laws.BitsLemmas
namespace Go.Proofs.Ytlmljommgmbckaa.heapHeads
open Go.ChangeShapes Go.WideShapes Go.ChangeAt Go.RowKit
open Go.ChangeMaps (open_string shut_string)
open Ev (AV BinF UnF IsInt isInt_opq isInt_int lss_ok leq_ok gtr_ok geq_ok eql_ok neq_ok add_ok mul_ok bin_ok V_opq table table_ok)
set_option linter.unusedVariables false

set_option maxRecDepth 1000000 in
theorem livesRuns : Ev.isTrue (Ev.calls Try.prog Ev.noFacts 100000 60 9 [] Ev.Mem.start) = true := by kernel_rfl
theorem known : Ev.KnownCalls Try.prog [9] := by
  intro f hf w
  rw [List.mem_singleton.1 hf]
  exact Ev.closed (by kernel_rfl) livesRuns w

/-! ### whole numbers -/
theorem shl_ok {P : Program} {ν : Nat → Value} {a : AV} {i n : Nat} {k k' : IntKind} {m : Int} (ha : IsInt ν a k m) (h : ν i = .int k (k.wrap (m * 2 ^ (min n k.bits)))) : (⟨.shl, a, .int k' n, .opq i⟩ : BinF).Ok P ν := by
  refine ⟨fun {E t xo yo x y} hx hy => ?_⟩
  have hy : y = .int k' (Int.ofNat n) := hy.int_inv
  rw [ha _ _ hx, hy]
  refine ⟨.int k (k.wrap (m * 2 ^ (min n k.bits))), fun w => ?_, V_opq h rfl⟩
  have h0 : ¬ (Int.ofNat n < 0) := by simp
  simp only [Sem.run_bind, Ev.run_eqGuard (P := P) .shl t xo yo (.int k m) (.int k' (Int.ofNat n)) (by simp) (by simp) w, Result.andThen_ok, binOp, Op.shift, h0, if_false]
  rfl
theorem or_ok {P : Program} {ν : Nat → Value} {a b : AV} {i : Nat} {k : IntKind} {m n : Int} (ha : IsInt ν a k m) (hb : IsInt ν b k n) (h : ν i = .int k (k.wrap ((BitVec.ofInt k.bits m ||| BitVec.ofInt k.bits n).toNat : Nat))) : (⟨.or, a, b, .opq i⟩ : BinF).Ok P ν :=
  bin_ok ha hb (z := .int k (k.wrap ((BitVec.ofInt k.bits m ||| BitVec.ofInt k.bits n).toNat : Nat))) (fun t w => by simp only [binOp, ne_eq, not_true_eq_false, if_false, Op.intBits]; rfl) fun E => V_opq h rfl
theorem in64 {n : Int} (h0 : -9223372036854775808 ≤ n) (h1 : n ≤ 9223372036854775807) : IntKind.i64.wrap n = n := by rw [Go.IntKind.wrap_i64]; omega
theorem or_add {p : Nat} {m n : Int} (h0 : 0 ≤ m) (h1 : m < 2 ^ p) (h2 : 0 ≤ n) (h3 : n < 2 ^ 60) (h4 : n % 2 ^ p = 0) (hp : p ≤ 60) : (((BitVec.ofInt IntKind.i64.bits m ||| BitVec.ofInt IntKind.i64.bits n).toNat : Nat) : Int) = m + n := by
  obtain ⟨a, rfl⟩ := Int.eq_ofNat_of_zero_le h0
  obtain ⟨b, rfl⟩ := Int.eq_ofNat_of_zero_le h2
  have e40 : (2 : Nat) ^ p ≤ 2 ^ 60 := Nat.pow_le_pow_right (by omega) hp
  have h1 : a < 2 ^ p := by exact_mod_cast h1
  have h3 : b < 2 ^ 60 := by exact_mod_cast h3
  have h4 : b % 2 ^ p = 0 := by exact_mod_cast h4
  have hbits : IntKind.i64.bits = 64 := rfl
  have c1 : (BitVec.ofInt IntKind.i64.bits (a : Int)).toNat = a := by
    rw [hbits, BitVec.ofInt_natCast, BitVec.toNat_ofNat]; exact Nat.mod_eq_of_lt (by omega)
  have c2 : (BitVec.ofInt IntKind.i64.bits (b : Int)).toNat = b := by
    rw [hbits, BitVec.ofInt_natCast, BitVec.toNat_ofNat]; exact Nat.mod_eq_of_lt (by omega)
  rw [BitVec.toNat_or, c1, c2]
  have hb : b = 2 ^ p * (b / 2 ^ p) := by
    have := Nat.div_add_mod b (2 ^ p)
    rw [h4] at this; omega
  have := Nat.two_pow_add_eq_or_of_lt h1 (b / 2 ^ p)
  rw [← hb] at this
  rw [Nat.or_comm, ← this]
  push_cast
  omega

/-! ### what is known -/
/-- The first test that refuses; 0: none does. -/
def stat (a b c : Int) : Nat := if a < 1 then 1 else if 7 < a then 2 else if b < 0 then 3 else if 65536 < b then 4 else if c < 0 then 5 else if 1073741824 < c then 6 else 0
abbrev num (n : Nat) : AV := .int .i64 (Int.ofNat n)
/-- The tests, up to the one that refuses. -/
def tests (x y z : AV) : Nat → List BinF
  | 0 => [⟨.lss, x, num 1, .bool false⟩, ⟨.gtr, x, num 7, .bool false⟩, ⟨.lss, y, num 0, .bool false⟩, ⟨.gtr, y, num 65536, .bool false⟩, ⟨.lss, z, num 0, .bool false⟩, ⟨.gtr, z, num 1073741824, .bool false⟩]
  | 1 => [⟨.lss, x, num 1, .bool true⟩]
  | 2 => [⟨.lss, x, num 1, .bool false⟩, ⟨.gtr, x, num 7, .bool true⟩]
  | 3 => [⟨.lss, x, num 1, .bool false⟩, ⟨.gtr, x, num 7, .bool false⟩, ⟨.lss, y, num 0, .bool true⟩]
  | 4 => [⟨.lss, x, num 1, .bool false⟩, ⟨.gtr, x, num 7, .bool false⟩, ⟨.lss, y, num 0, .bool false⟩, ⟨.gtr, y, num 65536, .bool true⟩]
  | 5 => [⟨.lss, x, num 1, .bool false⟩, ⟨.gtr, x, num 7, .bool false⟩, ⟨.lss, y, num 0, .bool false⟩, ⟨.gtr, y, num 65536, .bool false⟩, ⟨.lss, z, num 0, .bool true⟩]
  | _ => [⟨.lss, x, num 1, .bool false⟩, ⟨.gtr, x, num 7, .bool false⟩, ⟨.lss, y, num 0, .bool false⟩, ⟨.gtr, y, num 65536, .bool false⟩, ⟨.lss, z, num 0, .bool false⟩, ⟨.gtr, z, num 1073741824, .bool true⟩]
theorem tests_ok {P : Program} {ν : Nat → Value} {x y z : AV} {a b c : Int} (hx : IsInt ν x .i64 a) (hy : IsInt ν y .i64 b) (hz : IsInt ν z .i64 c) : ∀ f ∈ tests x y z (stat a b c), f.Ok P ν := by
  have hn : ∀ n : Nat, IsInt ν (num n) .i64 n := fun n => isInt_int
  have key : ∀ (p q r s t u : Bool), decide (a < ((1 : Nat) : Int)) = p → decide (((7 : Nat) : Int) < a) = q → decide (b < ((0 : Nat) : Int)) = r → decide (((65536 : Nat) : Int) < b) = s → decide (c < ((0 : Nat) : Int)) = t → decide (((1073741824 : Nat) : Int) < c) = u →
      ∀ f ∈ ([⟨.lss, x, num 1, .bool p⟩, ⟨.gtr, x, num 7, .bool q⟩, ⟨.lss, y, num 0, .bool r⟩, ⟨.gtr, y, num 65536, .bool s⟩, ⟨.lss, z, num 0, .bool t⟩, ⟨.gtr, z, num 1073741824, .bool u⟩] : List BinF), f.Ok P ν := by
    intro p q r s t u h1 h2 h3 h4 h5 h6 f hf
    simp only [List.mem_cons, List.not_mem_nil, or_false] at hf
    rcases hf with rfl | rfl | rfl | rfl | rfl | rfl
    · exact lss_ok hx (hn 1) h1
    · exact gtr_ok hx (hn 7) h2
    · exact lss_ok hy (hn 0) h3
    · exact gtr_ok hy (hn 65536) h4
    · exact lss_ok hz (hn 0) h5
    · exact gtr_ok hz (hn 1073741824) h6
  have k := key _ _ _ _ _ _ rfl rfl rfl rfl rfl rfl
  unfold stat
  by_cases h1 : a < 1
  · have e1 : decide (a < ((1 : Nat) : Int)) = true := decide_eq_true (by omega)
    rw [e1] at k
    rw [if_pos h1]
    intro f hf
    simp only [tests, List.mem_cons, List.not_mem_nil, or_false] at hf
    exact k f (by simp [hf])
  have e1 : decide (a < ((1 : Nat) : Int)) = false := decide_eq_false (by omega)
  rw [e1] at k; rw [if_neg h1]
  by_cases h2 : 7 < a
  · have e2 : decide (((7 : Nat) : Int) < a) = true := decide_eq_true (by omega)
    rw [e2] at k
    rw [if_pos h2]
    intro f hf
    simp only [tests, List.mem_cons, List.not_mem_nil, or_false] at hf
    exact k f (by rcases hf with rfl | rfl <;> simp)
  have e2 : decide (((7 : Nat) : Int) < a) = false := decide_eq_false (by omega)
  rw [e2] at k; rw [if_neg h2]
  by_cases h3 : b < 0
  · have e3 : decide (b < ((0 : Nat) : Int)) = true := decide_eq_true (by omega)
    rw [e3] at k
    rw [if_pos h3]
    intro f hf
    simp only [tests, List.mem_cons, List.not_mem_nil, or_false] at hf
    exact k f (by rcases hf with rfl | rfl | rfl <;> simp)
  have e3 : decide (b < ((0 : Nat) : Int)) = false := decide_eq_false (by omega)
  rw [e3] at k; rw [if_neg h3]
  by_cases h4 : 65536 < b
  · have e4 : decide (((65536 : Nat) : Int) < b) = true := decide_eq_true (by omega)
    rw [e4] at k
    rw [if_pos h4]
    intro f hf
    simp only [tests, List.mem_cons, List.not_mem_nil, or_false] at hf
    exact k f (by rcases hf with rfl | rfl | rfl | rfl <;> simp)
  have e4 : decide (((65536 : Nat) : Int) < b) = false := decide_eq_false (by omega)
  rw [e4] at k; rw [if_neg h4]
  by_cases h5 : c < 0
  · have e5 : decide (c < ((0 : Nat) : Int)) = true := decide_eq_true (by omega)
    rw [e5] at k
    rw [if_pos h5]
    intro f hf
    simp only [tests, List.mem_cons, List.not_mem_nil, or_false] at hf
    exact k f (by rcases hf with rfl | rfl | rfl | rfl | rfl <;> simp)
  have e5 : decide (c < ((0 : Nat) : Int)) = false := decide_eq_false (by omega)
  rw [e5] at k; rw [if_neg h5]
  by_cases h6 : 1073741824 < c
  · have e6 : decide (((1073741824 : Nat) : Int) < c) = true := decide_eq_true (by omega)
    rw [e6] at k
    rw [if_pos h6]
    exact k
  have e6 : decide (((1073741824 : Nat) : Int) < c) = false := decide_eq_false (by omega)
  rw [e6] at k; rw [if_neg h6]
  exact k
/-- A head put together, its parts from number i on. -/
def head (x y z : AV) (i : Nat) : List BinF := [⟨.shl, y, .int .u64 (Int.ofNat 3), .opq i⟩, ⟨.or, x, .opq i, .opq (i + 1)⟩, ⟨.shl, z, .int .u64 (Int.ofNat 20), .opq (i + 2)⟩, ⟨.or, .opq (i + 1), .opq (i + 2), .opq (i + 3)⟩, ⟨.eql, .opq (i + 3), num 0, .bool false⟩]
def word (a b c : Int) : Int := a + 8 * b + 1048576 * c
/-- What its parts are. -/
def parts (a b c : Int) (j : Nat) : Value := .int .i64 (if j = 0 then 8 * b else if j = 1 then a + 8 * b else if j = 2 then 1048576 * c else word a b c)
theorem head_ok {P : Program} {ν : Nat → Value} {x y z : AV} {a b c : Int} {i : Nat} (hx : IsInt ν x .i64 a) (hy : IsInt ν y .i64 b) (hz : IsInt ν z .i64 c) (hs : stat a b c = 0) (hν : ∀ j, j < 4 → ν (i + j) = parts a b c j) : ∀ f ∈ head x y z i, f.Ok P ν := by
  have hb : 1 ≤ a ∧ a ≤ 7 ∧ 0 ≤ b ∧ b ≤ 65536 ∧ 0 ≤ c ∧ c ≤ 1073741824 := by
    unfold stat at hs
    repeat' split at hs
    all_goals omega
  have h0 : ν i = .int .i64 (8 * b) := hν 0 (by omega)
  have h1 : ν (i + 1) = .int .i64 (a + 8 * b) := hν 1 (by omega)
  have h2 : ν (i + 2) = .int .i64 (1048576 * c) := hν 2 (by omega)
  have h3 : ν (i + 3) = .int .i64 (word a b c) := hν 3 (by omega)
  intro f hf
  simp only [head, List.mem_cons, List.not_mem_nil, or_false] at hf
  rcases hf with rfl | rfl | rfl | rfl | rfl
  · refine shl_ok hy ?_
    rw [h0, show (min 3 IntKind.i64.bits) = 3 from rfl, in64 (by omega) (by omega), Int.mul_comm]; rfl
  · refine or_ok hx (isInt_opq h0) ?_
    rw [h1, or_add (p := 3) (by omega) (by omega) (by omega) (by omega) (by omega) (by omega), in64 (by omega) (by omega)]
  · refine shl_ok hz ?_
    rw [h2, show (min 20 IntKind.i64.bits) = 20 from rfl, in64 (by omega) (by omega), Int.mul_comm]; rfl
  · refine or_ok (isInt_opq h1) (isInt_opq h2) ?_
    rw [h3, or_add (p := 20) (by omega) (by omega) (by omega) (by omega) (by omega) (by omega), in64 (by omega) (by omega)]; rfl
  · refine eql_ok (isInt_opq h3) (n := 0) isInt_int (decide_eq_false ?_)
    unfold word; omega
/-- The document's way to put it together. -/
def told (x y z : AV) (i r : Nat) : List BinF := [⟨.mul, num 131072, z, .opq i⟩, ⟨.add, y, .opq i, .opq (i + 1)⟩, ⟨.mul, num 8, .opq (i + 1), .opq (i + 2)⟩, ⟨.add, x, .opq (i + 2), .opq r⟩, ⟨.neq, .opq r, .opq r, .bool (!true)⟩]
def toldParts (a b c : Int) (j : Nat) : Value := .int .i64 (if j = 0 then 131072 * c else if j = 1 then b + 131072 * c else 8 * (b + 131072 * c))
theorem told_ok {P : Program} {ν : Nat → Value} {x y z : AV} {a b c : Int} {i r : Nat} (hx : IsInt ν x .i64 a) (hy : IsInt ν y .i64 b) (hz : IsInt ν z .i64 c) (hs : stat a b c = 0) (hν : ∀ j, j < 3 → ν (i + j) = toldParts a b c j) (hr : ν r = .int .i64 (word a b c)) : ∀ f ∈ told x y z i r, f.Ok P ν := by
  have hb : 1 ≤ a ∧ a ≤ 7 ∧ 0 ≤ b ∧ b ≤ 65536 ∧ 0 ≤ c ∧ c ≤ 1073741824 := by
    unfold stat at hs
    repeat' split at hs
    all_goals omega
  have h0 : ν i = .int .i64 (131072 * c) := hν 0 (by omega)
  have h1 : ν (i + 1) = .int .i64 (b + 131072 * c) := hν 1 (by omega)
  have h2 : ν (i + 2) = .int .i64 (8 * (b + 131072 * c)) := hν 2 (by omega)
  intro f hf
  simp only [told, List.mem_cons, List.not_mem_nil, or_false] at hf
  rcases hf with rfl | rfl | rfl | rfl | rfl
  · exact mul_ok (m := 131072) isInt_int hz (by rw [h0, in64 (by omega) (by omega)])
  · exact add_ok hy (isInt_opq h0) (by rw [h1, in64 (by omega) (by omega)])
  · exact mul_ok (m := 8) isInt_int (isInt_opq h1) (by rw [h2, in64 (by omega) (by omega)])
  · exact add_ok hx (isInt_opq h2) (by rw [hr, in64 (by omega) (by omega)]; unfold word; congr 1; omega)
  · exact neq_ok (isInt_opq hr) (isInt_opq hr) (by simp)

abbrev x0 : AV := .opq 0
abbrev x1 : AV := .opq 1
abbrev x2 : AV := .opq 2
abbrev x3 : AV := .opq 3
abbrev x4 : AV := .opq 4
abbrev x5 : AV := .opq 5
def ν (a b c d e f : Int) (i : Nat) : Value :=
  if i = 0 then .int .i64 a else if i = 1 then .int .i64 b else if i = 2 then .int .i64 c else if i = 3 then .int .i64 d else if i = 4 then .int .i64 e else if i = 5 then .int .i64 f
  else if i < 14 then parts a b c (i - 10) else if i < 24 then toldParts a b c (i - 20) else parts d e f (i - 30)
def firstMore : Nat → List BinF
  | 0 => head x0 x1 x2 10 ++ told x0 x1 x2 20 13
  | _ => []
def secondMore : Nat → List BinF
  | 0 => head x3 x4 x5 30
  | _ => []
def alike : Nat → Nat → Bool → Bool → Bool → List BinF
  | 0, 0, p, q, r => [⟨.eql, .opq 13, .opq 33, .bool (p && q && r)⟩]
  | _, _, _, _, _ => []
def bins (s t : Nat) (p q r : Bool) : List BinF := [⟨.eql, x0, x3, .bool p⟩, ⟨.eql, x1, x4, .bool q⟩, ⟨.eql, x2, x5, .bool r⟩] ++ (tests x0 x1 x2 s ++ (tests x3 x4 x5 t ++ (firstMore s ++ (secondMore t ++ alike s t p q r))))
def Φ (s t : Nat) (p q r : Bool) : Ev.Facts := table (bins s t p q r) []
theorem facts (a b c d e f : Int) : Ev.FactsOk Try.prog (ν a b c d e f) (Φ (stat a b c) (stat d e f) (decide (a = d)) (decide (b = e)) (decide (c = f))) := by
  have h0 : IsInt (ν a b c d e f) x0 .i64 a := isInt_opq rfl
  have h1 : IsInt (ν a b c d e f) x1 .i64 b := isInt_opq rfl
  have h2 : IsInt (ν a b c d e f) x2 .i64 c := isInt_opq rfl
  have h3 : IsInt (ν a b c d e f) x3 .i64 d := isInt_opq rfl
  have h4 : IsInt (ν a b c d e f) x4 .i64 e := isInt_opq rfl
  have h5 : IsInt (ν a b c d e f) x5 .i64 f := isInt_opq rfl
  have n1 : ∀ j, j < 4 → ν a b c d e f (10 + j) = parts a b c j := fun j hj => by
    unfold ν
    rw [if_neg (by omega), if_neg (by omega), if_neg (by omega), if_neg (by omega), if_neg (by omega), if_neg (by omega), if_pos (by omega)]
    congr 1; omega
  have n2 : ∀ j, j < 3 → ν a b c d e f (20 + j) = toldParts a b c j := fun j hj => by
    unfold ν
    rw [if_neg (by omega), if_neg (by omega), if_neg (by omega), if_neg (by omega), if_neg (by omega), if_neg (by omega), if_neg (by omega), if_pos (by omega)]
    congr 1; omega
  have n3 : ∀ j, j < 4 → ν a b c d e f (30 + j) = parts d e f j := fun j hj => by
    unfold ν
    rw [if_neg (by omega), if_neg (by omega), if_neg (by omega), if_neg (by omega), if_neg (by omega), if_neg (by omega), if_neg (by omega), if_neg (by omega)]
    congr 1; omega
  have bnd : ∀ {a b c : Int}, stat a b c = 0 → 1 ≤ a ∧ a ≤ 7 ∧ 0 ≤ b ∧ b ≤ 65536 ∧ 0 ≤ c ∧ c ≤ 1073741824 := fun {a b c} hs => by
    unfold stat at hs
    repeat' split at hs
    all_goals omega
  refine table_ok (fun g hg => ?_) (fun g hg => by cases hg)
  simp only [bins, List.mem_append] at hg
  rcases hg with hg | hg | hg | hg | hg | hg
  · simp only [List.mem_cons, List.not_mem_nil, or_false] at hg
    rcases hg with rfl | rfl | rfl
    · exact eql_ok h0 h3 rfl
    · exact eql_ok h1 h4 rfl
    · exact eql_ok h2 h5 rfl
  · exact tests_ok h0 h1 h2 g hg
  · exact tests_ok h3 h4 h5 g hg
  · cases hs : stat a b c with
    | zero =>
      rw [hs] at hg
      simp only [firstMore, List.mem_append] at hg
      rcases hg with hg | hg
      · exact head_ok h0 h1 h2 hs n1 g hg
      · exact told_ok h0 h1 h2 hs n2 (n1 3 (by omega)) g hg
    | succ n => rw [hs] at hg; simp [firstMore] at hg
  · cases hs : stat d e f with
    | zero => rw [hs] at hg; exact head_ok h3 h4 h5 hs n3 g hg
    | succ n => rw [hs] at hg; simp [secondMore] at hg
  · cases hs : stat a b c with
    | succ n => rw [hs] at hg; simp [alike] at hg
    | zero =>
      cases ht : stat d e f with
      | succ n => rw [hs, ht] at hg; simp [alike] at hg
      | zero =>
        rw [hs, ht] at hg
        simp only [alike, List.mem_cons, List.not_mem_nil, or_false] at hg
        subst hg
        have b1 := bnd hs
        have b2 := bnd ht
        refine eql_ok (m := word a b c) (n := word d e f) (isInt_opq (n1 3 (by omega))) (isInt_opq (n3 3 (by omega))) ?_
        rw [Bool.eq_iff_iff]
        simp only [decide_eq_true_eq, Bool.and_eq_true]
        unfold word
        omega

/-! ### the runs -/
def all7 (p : Nat → Bool) : Bool := p 0 && (p 1 && (p 2 && (p 3 && (p 4 && (p 5 && p 6)))))
noncomputable def one (s t : Nat) (p q r : Bool) : Bool := Ev.isTrue (Ev.callsK Try.prog (Φ s t p q r) [9] 100000 60 3 [x0, x1, x2, x3, x4, x5] Ev.Mem.start)
theorem all7_ok {p : Nat → Bool} (h : all7 p = true) : ∀ i, i ≤ 6 → p i = true := by
  simp only [all7, Bool.and_eq_true] at h
  obtain ⟨h0, h1, h2, h3, h4, h5, h6⟩ := h
  intro i hi
  match i, hi with
  | 0, _ => exact h0
  | 1, _ => exact h1
  | 2, _ => exact h2
  | 3, _ => exact h3
  | 4, _ => exact h4
  | 5, _ => exact h5
  | 6, _ => exact h6
set_option maxRecDepth 1000000 in
theorem runs000 : (all7 fun s => all7 fun t => one s t false false false) = true := by kernel_rfl
set_option maxRecDepth 1000000 in
theorem runs001 : (all7 fun s => all7 fun t => one s t false false true) = true := by kernel_rfl
set_option maxRecDepth 1000000 in
theorem runs010 : (all7 fun s => all7 fun t => one s t false true false) = true := by kernel_rfl
set_option maxRecDepth 1000000 in
theorem runs011 : (all7 fun s => all7 fun t => one s t false true true) = true := by kernel_rfl
set_option maxRecDepth 1000000 in
theorem runs100 : (all7 fun s => all7 fun t => one s t true false false) = true := by kernel_rfl
set_option maxRecDepth 1000000 in
theorem runs101 : (all7 fun s => all7 fun t => one s t true false true) = true := by kernel_rfl
set_option maxRecDepth 1000000 in
theorem runs110 : (all7 fun s => all7 fun t => one s t true true false) = true := by kernel_rfl
set_option maxRecDepth 1000000 in
theorem runs111 : (all7 fun s => all7 fun t => one s t true true true) = true := by kernel_rfl
theorem stat_le (a b c : Int) : stat a b c ≤ 6 := by
  unfold stat
  repeat' split
  all_goals omega
theorem runs (s t : Nat) (hs : s ≤ 6) (ht : t ≤ 6) (p q r : Bool) : one s t p q r = true := by
  match p, q, r with
  | false, false, false => exact all7_ok (all7_ok runs000 s hs) t ht
  | false, false, true => exact all7_ok (all7_ok runs001 s hs) t ht
  | false, true, false => exact all7_ok (all7_ok runs010 s hs) t ht
  | false, true, true => exact all7_ok (all7_ok runs011 s hs) t ht
  | true, false, false => exact all7_ok (all7_ok runs100 s hs) t ht
  | true, false, true => exact all7_ok (all7_ok runs101 s hs) t ht
  | true, true, false => exact all7_ok (all7_ok runs110 s hs) t ht
  | true, true, true => exact all7_ok (all7_ok runs111 s hs) t ht
theorem walk (a b c d e f : Int) (_ : (Lit.int .i64 a).wf = true) (_ : (Lit.int .i64 b).wf = true) (_ : (Lit.int .i64 c).wf = true) (_ : (Lit.int .i64 d).wf = true) (_ : (Lit.int .i64 e).wf = true) (_ : (Lit.int .i64 f).wf = true) (w : World) : Calls Try.prog 3 #[.int .i64 a, .int .i64 b, .int .i64 c, .int .i64 d, .int .i64 e, .int .i64 f] w fun e w' => e = .returned (.bool true) ∧ Below w.heap.size w w' := by
  have hv : Ev.VL (ν a b c d e f) (fun _ => none) [x0, x1, x2, x3, x4, x5] (#[Value.int .i64 a, .int .i64 b, .int .i64 c, .int .i64 d, .int .i64 e, .int .i64 f] : Array Value).toList := by
    simp only [Ev.VL, Ev.V]
    exact ⟨_, _, rfl, ⟨rfl, rfl⟩, _, _, rfl, ⟨rfl, rfl⟩, _, _, rfl, ⟨rfl, rfl⟩, _, _, rfl, ⟨rfl, rfl⟩, _, _, rfl, ⟨rfl, rfl⟩, _, _, rfl, ⟨rfl, rfl⟩, rfl⟩
  haveI := facts a b c d e f
  exact Ev.closedK (Φ := Φ (stat a b c) (stat d e f) (decide (a = d)) (decide (b = e)) (decide (c = f))) known (by kernel_rfl) (runs _ _ (stat_le a b c) (stat_le d e f) _ _ _) (ν a b c d e f) _ hv w

theorem own : ownKnob Try.prog.godebug = none := by kernel_rfl

set_option maxRecDepth 100000 in
theorem lifted (os : Os) (started : os.Started) (H : Type) (enc : TypeId × Value → H) :
    ReturnsInHanded {} Try.checked os 3 .any (Rows.heapHeadsSpec.pre6 enc Try.prog Try.f3 Rows.heapHeadsRow.domain false) (Rows.heapHeadsSpec.post enc Try.prog Try.f3 false true false false) := by
  refine returnsInHanded_of_change (C := Try.checked) own started (by kernel_rfl) Try.func3
    (ChangeSpec.witness6 (enc := enc) (C := Try.checked) false ⟨#[], #[.int .i64 0, .int .i64 0, .int .i64 0, .int .i64 0, .int .i64 0, .int .i64 0], []⟩ 8 (by kernel_rfl) (by kernel_rfl) (by kernel_rfl) (by kernel_rfl)) ?_
  intro W base args ds gs before hval0 hW hcnd _
  have hval : ∀ (j : Nat) t v, Try.f3.params[j]? = some t → args[j]? = some v → Value.okWide Try.prog W .any base t v := hval0
  have hW' := hW
  obtain ⟨p, q, hA0, hV, rfl, hfz, hnd⟩ := hW
  have hA : DataW.TrodAll enc Try.prog W 0 (fun _ => true) true Try.f3.params.toList args.toList ds p := hA0
  rw [Try.params3] at hA hval
  obtain ⟨v0, vs0, d0, ds0, p0, q0, hargs, rfl, rfl, h0, r0⟩ := trodAll_cons hA
  obtain ⟨v1, vs1, d1, ds1, p1, q1, rfl, rfl, rfl, h1, r1⟩ := trodAll_cons r0
  obtain ⟨v2, vs2, d2, ds2, p2, q2, rfl, rfl, rfl, h2, r2⟩ := trodAll_cons r1
  obtain ⟨v3, vs3, d3, ds3, p3, q3, rfl, rfl, rfl, h3, r3⟩ := trodAll_cons r2
  obtain ⟨v4, vs4, d4, ds4, p4, q4, rfl, rfl, rfl, h4, r4⟩ := trodAll_cons r3
  obtain ⟨v5, vs5, d5, ds5, p5, q5, rfl, rfl, rfl, h5, r5⟩ := trodAll_cons r4
  obtain ⟨rfl, rfl, rfl⟩ := trodAll_nil r5
  obtain rfl : args = #[v0, v1, v2, v3, v4, v5] := by cases args; simp_all
  obtain ⟨rfl, rfl⟩ := trodVars_none hV
  obtain ⟨a0, rfl, rfl, rfl, w0⟩ := open_int Try.underlying3 (hval 0 3 v0 rfl rfl) h0
  obtain ⟨a1, rfl, rfl, rfl, w1⟩ := open_int Try.underlying3 (hval 1 3 v1 rfl rfl) h1
  obtain ⟨a2, rfl, rfl, rfl, w2⟩ := open_int Try.underlying3 (hval 2 3 v2 rfl rfl) h2
  obtain ⟨a3, rfl, rfl, rfl, w3⟩ := open_int Try.underlying3 (hval 3 3 v3 rfl rfl) h3
  obtain ⟨a4, rfl, rfl, rfl, w4⟩ := open_int Try.underlying3 (hval 4 3 v4 rfl rfl) h4
  obtain ⟨a5, rfl, rfl, rfl, w5⟩ := open_int Try.underlying3 (hval 5 3 v5 rfl rfl) h5
  clear hA0 hval0
  simp only [List.append_nil] at hW'
  refine (walk a0 a1 a2 a3 a4 a5 w0 w1 w2 w3 w4 w5 W).mono fun e W' ⟨he, bel⟩ => ?_
  subst he
  exact ⟨_, rfl, _, _, _, [], [], [], hW', trodAll_mk1 (shut_bool Try.underlying4 _), (trodAll_cons_mk (shut_int Try.underlying3 w0) (trodAll_cons_mk (shut_int Try.underlying3 w1) (trodAll_cons_mk (shut_int Try.underlying3 w2) (trodAll_cons_mk (shut_int Try.underlying3 w3) (trodAll_cons_mk (shut_int Try.underlying3 w4) (trodAll_cons_mk (shut_int Try.underlying3 w5) trodAll_mk0)))))), rfl, bel.frame _, fun h => by cases h⟩

theorem over : Rows.heapHeadsRow.holds Try.pinned (OpenSpec.ofChange Rows.heapHeadsSpec) :=
  OpenClaim.holds_of_wide 3 Try.f3 rfl rfl rfl rfl rfl rfl rfl ⟨rfl, rfl, rfl, rfl, rfl⟩ rfl rfl rfl rfl rfl (by kernel_rfl) Try.func3 (by kernel_rfl)
    (of_decide_eq_true (by kernel_rfl)) (by unfold Func.isWrapper; rw [if_neg (by decide +kernel)]; exact ⟨rfl, rfl⟩)
    (fun os started H enc _ => lifted os started H enc)

theorem proved : Rows.HeapHeadsSaid := over

end Go.Proofs.Ytlmljommgmbckaa.heapHeads
