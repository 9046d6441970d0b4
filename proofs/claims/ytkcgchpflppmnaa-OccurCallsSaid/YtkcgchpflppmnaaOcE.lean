/- The tables of occurrences, by the machine: both, either, in a lambda. -/
import Derived.Test.YtkcgchpflppmnaaOcD
import Derived.Test.YtkcgchpflppmnaaEvX
import Derived.ProofKit
namespace Go.Proofs.Ytkcgchpflppmnaa
open Go.RowKit
open Ev (AV Mem V VL MR)
set_option linter.unusedSimpArgs false
set_option linter.unusedVariables false
set_option maxRecDepth 1000000

theorem mix : Try.prog.follows .mixedOrders = true := by kernel_rfl
noncomputable def allV (r : AV) : List (AV × Mem) → Bool
  | [] => true
  | q :: l => AV.beq q.1 r && allV r l
noncomputable def ansV (r : AV) : Option (List (AV × Mem)) → Bool
  | some l => allV r l
  | none => false
theorem allV_mem {r : AV} : ∀ {l : List (AV × Mem)}, allV r l = true → ∀ q ∈ l, q.1 = r
  | [], _, q, hq => by cases hq
  | p :: l, h, q, hq => by
    rw [allV, Bool.and_eq_true] at h
    rcases List.mem_cons.1 hq with rfl | hq
    · exact AV.eq_of_beq _ _ h.1
    · exact allV_mem h.2 q hq
theorem valued {ν : Nat → Value} {Φ : Ev.Facts} [Ev.FactsOk Try.prog ν Φ] {F : FuncId} {args : List AV} {xs : Array Value} {r : AV} {z : Value} (h : ansV r (Ev.calls Try.prog Φ 100000 60 F args Mem.start) = true) (hx : VL ν (fun _ => none) args xs.toList)
    (hz : ∀ E x, V ν E r x → x = z) (w : World) : Calls Try.prog F xs w fun e w' => e = .returned z ∧ Below w.heap.size w w' := by
  cases e : Ev.calls Try.prog Φ 100000 60 F args Mem.start with
  | none => rw [e] at h; cases h
  | some l =>
    rw [e] at h
    have hall := allV_mem (show allV r l = true from h)
    refine Calls.mono (Ev.calls_ok (ν := ν) mix 100000 60 _ _ F args Mem.start l e rfl (fun _ => none) xs w hx (MR.start w)) fun e w' he => ?_
    obtain ⟨q, hq, E', x, _, rfl, hx, hM, _⟩ := he
    rw [hall q hq] at hx
    exact ⟨by rw [hz _ _ hx], hM.low⟩
noncomputable def fam (Φ : Ev.Facts) (F : FuncId) (args : Nat → List AV) (r : Nat → AV) : Nat → Bool
  | 0 => true
  | n + 1 => ansV (r n) (Ev.calls Try.prog Φ 100000 60 F (args n) Mem.start) && fam Φ F args r n
theorem fam_at {Φ : Ev.Facts} {F : FuncId} {args : Nat → List AV} {r : Nat → AV} : ∀ {n : Nat}, fam Φ F args r n = true → ∀ k, k < n → ansV (r k) (Ev.calls Try.prog Φ 100000 60 F (args k) Mem.start) = true
  | 0, _, k, hk => by omega
  | n + 1, h, k, hk => by
    rw [fam, Bool.and_eq_true] at h
    by_cases e : k = n
    · rw [e]; exact h.1
    · exact fam_at h.2 k (by omega)
abbrev ν0 : Nat → Value := fun _ => undef
theorem vl_nil (ν : Nat → Value) : VL ν (fun _ => none) [] [] := by simp only [VL]
theorem vl_int (ν : Nat → Value) (n : Int) {l : List AV} {xs : List Value} (h : VL ν (fun _ => none) l xs) : VL ν (fun _ => none) (.int .i64 n :: l) (.int .i64 n :: xs) := by
  simp only [VL, V]
  exact ⟨_, _, rfl, rfl, h⟩
theorem is_int (n : Int) (E : Ev.Env) (x : Value) (h : V ν0 E (.int .i64 n) x) : x = .int .i64 n := by simpa only [V] using h
def fst5 (n : Nat) : Int := (n / 5 : Nat) + 1
def snd5 (n : Nat) : Int := (n % 5 : Nat) + 1
abbrev two5 (n : Nat) : List AV := [.int .i64 (fst5 n), .int .i64 (snd5 n)]
theorem pair5 {a b : Int} (ha : 1 ≤ a ∧ a ≤ 5) (hb : 1 ≤ b ∧ b ≤ 5) : ∃ n, n < 25 ∧ fst5 n = a ∧ snd5 n = b := by
  exact ⟨((a - 1) * 5 + (b - 1)).toNat, by omega, by unfold fst5; omega, by unfold snd5; omega⟩
theorem two_of {F : FuncId} {g : Int → Int → Int} (h : fam Ev.noFacts F two5 (fun n => .int .i64 (g (fst5 n) (snd5 n))) 25 = true) {a b : Int} (ha : 1 ≤ a ∧ a ≤ 5) (hb : 1 ≤ b ∧ b ≤ 5) (w : World) :
    Calls Try.prog F #[.int .i64 a, .int .i64 b] w fun e w' => e = .returned (.int .i64 (g a b)) ∧ Below w.heap.size w w' := by
  obtain ⟨n, hn, rfl, rfl⟩ := pair5 ha hb
  exact valued (ν := ν0) (fam_at h n hn) (vl_int _ _ (vl_int _ _ (vl_nil _))) (is_int _) w
theorem one_of {F : FuncId} {g : Int → Int} (h : fam Ev.noFacts F (fun n => [.int .i64 (snd5 n)]) (fun n => .int .i64 (g (snd5 n))) 5 = true) {a : Int} (ha : 1 ≤ a ∧ a ≤ 5) (w : World) :
    Calls Try.prog F #[.int .i64 a] w fun e w' => e = .returned (.int .i64 (g a)) ∧ Below w.heap.size w w' := by
  obtain ⟨n, hn, e⟩ : ∃ n, n < 5 ∧ snd5 n = a := ⟨(a - 1).toNat, by omega, by unfold snd5; omega⟩
  subst e
  exact valued (ν := ν0) (fam_at h n hn) (vl_int _ _ (vl_nil _)) (is_int _) w
theorem both_any {a b : Int} (ha : 1 ≤ a ∧ a ≤ 5) (hb : 1 ≤ b ∧ b ≤ 5) (w : World) : Calls Try.prog 62 #[.int .i64 a, .int .i64 b] w fun e w' => e = .returned (.int .i64 (bothK a b)) ∧ Below w.heap.size w w' :=
  two_of (g := bothK) (by kernel_rfl) ha hb w
theorem either_any {a b : Int} (ha : 1 ≤ a ∧ a ≤ 5) (hb : 1 ≤ b ∧ b ≤ 5) (w : World) : Calls Try.prog 63 #[.int .i64 a, .int .i64 b] w fun e w' => e = .returned (.int .i64 (eitherK a b)) ∧ Below w.heap.size w w' :=
  two_of (g := eitherK) (by kernel_rfl) ha hb w
theorem rboth_any {a b : Int} (ha : 1 ≤ a ∧ a ≤ 5) (hb : 1 ≤ b ∧ b ≤ 5) (w : World) : Calls Try.prog 66 #[.int .i64 a, .int .i64 b] w fun e w' => e = .returned (.int .i64 (bothK a b)) ∧ Below w.heap.size w w' :=
  two_of (g := bothK) (by kernel_rfl) ha hb w
theorem reither_any {a b : Int} (ha : 1 ≤ a ∧ a ≤ 5) (hb : 1 ≤ b ∧ b ≤ 5) (w : World) : Calls Try.prog 67 #[.int .i64 a, .int .i64 b] w fun e w' => e = .returned (.int .i64 (eitherK a b)) ∧ Below w.heap.size w w' :=
  two_of (g := eitherK) (by kernel_rfl) ha hb w
theorem inLambda_any {a : Int} (ha : 1 ≤ a ∧ a ≤ 5) (w : World) : Calls Try.prog 64 #[.int .i64 a] w fun e w' => e = .returned (.int .i64 (withinK a)) ∧ Below w.heap.size w w' :=
  one_of (g := withinK) (by kernel_rfl) ha w
theorem rwithin_any {a : Int} (ha : 1 ≤ a ∧ a ≤ 5) (w : World) : Calls Try.prog 47 #[.int .i64 a] w fun e w' => e = .returned (.int .i64 (withinK a)) ∧ Below w.heap.size w w' :=
  one_of (g := withinK) (by kernel_rfl) ha w
end Go.Proofs.Ytkcgchpflppmnaa
