/- What Go's library answers, as tables for the little machine. No program is walked here. -/
import Derived.Test.YtnidkdjapieinaaDoorEvQ
import Derived.Lib.Bytealg
noncomputable section
namespace Go.Proofs.YtnidkdjapieinaaDoor.Ev
open Go.RowKit
set_option linter.unusedSimpArgs false
set_option linter.unusedVariables false

section
variable {P : Program} {ν : Nat → Value}
def afindB (c : Nat) (l : List Nat) : Option Nat :=
  List.rec (motive := fun _ => Option Nat) none (fun b _ ih => Bool.rec (motive := fun _ => Option Nat) (Option.rec (motive := fun _ => Option Nat) none (fun i => some (Nat.succ i)) ih) (some 0) (Nat.beq b c)) l
theorem afindB_nil (c : Nat) : afindB c [] = none := rfl
theorem afindB_cons (c b : Nat) (l : List Nat) : afindB c (b :: l) = (match Nat.beq b c with
    | true => some 0
    | false => match afindB c l with
      | some i => some (i + 1)
      | none => none) := by
  show Bool.rec (motive := fun _ => Option Nat) (Option.rec (motive := fun _ => Option Nat) none (fun i => some (Nat.succ i)) (afindB c l)) (some 0) (Nat.beq b c) = _
  cases Nat.beq b c with
  | true => rfl
  | false => cases afindB c l <;> rfl
def atInt : Option Nat → Int
  | some i => .ofNat i
  | none => .negSucc 0
theorem afindB_ok {c : Nat} (hc : c < 256) : ∀ {l : List Nat}, (∀ b ∈ l, b < 256) → Lib.indexByte (l.map UInt8.ofNat) (UInt8.ofNat c) = atInt (afindB c l)
  | [], _ => rfl
  | b :: l, h => by
    have ih := afindB_ok hc (l := l) fun x hx => h x (by simp [hx])
    have hb : b < 256 := h b (by simp)
    have e : (UInt8.ofNat b == UInt8.ofNat c) = Nat.beq b c := by
      rw [Bool.eq_iff_iff]
      constructor
      · intro q
        have q := congrArg UInt8.toNat (eq_of_beq q)
        rw [u8_back hb, u8_back hc] at q
        subst q; exact Nat.beq_refl _
      · intro q; rw [Nat.eq_of_beq_eq_true q]; exact beq_self_eq_true _
    rw [List.map_cons, Lib.indexByte, e, afindB_cons, ih]
    cases Nat.beq b c with
    | true => rfl
    | false =>
      cases afindB c l with
      | none => rfl
      | some i =>
        have e1 : (Int.ofNat i == -1) = false := by simp
        show (if false = true then (0 : Int) else if (Int.ofNat i == -1) = true then -1 else Int.ofNat i + 1) = Int.ofNat (i + 1)
        rw [e1]
        rfl
def indexByteArgs (args : List AV) (M : Mem) : Option (List (AV × Mem)) := match args with
  | [.str s, .int .u8 (.ofNat c)] => match Nat.blt c 256 with
    | true => some [(.int .i64 (atInt (afindB c s)), M)]
    | false => none
  | _ => none
/-- strings.IndexByte, function F. -/
def indexByteT (F : Nat) : CF := fun f args M => Bool.rec (motive := fun _ => Option (List (AV × Mem))) none (indexByteArgs args M) (Nat.beq f F)
theorem indexByteT_ok {F : Nat} (h : ∀ (s : ByteArray) (c : Int) (w : World), Calls P F #[.string s, .int .u8 c] w fun e w' => e = .returned (.int .i64 (Lib.indexByte s.data.toList c.toNat.toUInt8)) ∧ w' = w) : CFok P (indexByteT F) ν := by
  intro B w0 f args M outs ho hk E xs w hx hM
  unfold indexByteT at ho
  cases e : Nat.beq f F with
  | false => rw [e] at ho; have ho : none = some outs := ho; cases ho
  | true =>
    rw [e] at ho
    replace ho : indexByteArgs args M = some outs := ho
    have e := Nat.eq_of_beq_eq_true e
    subst e
    unfold indexByteArgs at ho
    split at ho
    case h_2 => cases ho
    rename_i s c
    split at ho
    case h_2 => cases ho
    rename_i hc
    have hc := blt_iff.1 hc
    simp only [Option.some.injEq] at ho; subst ho
    simp only [VL] at hx
    obtain ⟨x, xs1, e1, h1, y, ys, e2, h2, e3⟩ := hx
    have hs := h1.str_all
    have := h1.str_inv; subst this
    have := h2.int_inv; subst this
    subst e3 e2
    have hxs : xs = #[.string (bytes s), .int .u8 (.ofNat c)] := by cases xs; simp_all
    subst hxs
    refine Calls.mono (h _ _ w) fun e w' ⟨he, hw⟩ => ?_
    subst hw
    refine ⟨_, List.mem_singleton.2 rfl, E, _, Late.refl _ _, he, ?_, hM, hk⟩
    simp only [V]
    have : (bytes s).data.toList = s.map UInt8.ofNat := by simp [bytes]
    rw [this, ← afindB_ok hc hs]
    rfl
end
end Go.Proofs.YtnidkdjapieinaaDoor.Ev
