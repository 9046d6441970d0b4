/- Contracts of the functions of one byte, by the little machine: run by the kernel at each of the 256 bytes. -/
import Derived.Test.YtnidkdjapieinaaDoorLxA
import Derived.Test.YtnidkdjapieinaaDoorEvX
import Derived.Test.YtnidkdjapieinaaDoorShelfT
namespace Go.Proofs.YtnidkdjapieinaaDoor
open Go.RowKit
open Ev (AV Mem V VL MR CFok callsT callsT_ok)

namespace Bytes
def goB : Bool → List (AV × Mem) → Bool
  | _, [] => true
  | b, (.bool c, _) :: l => decide (c = b) && goB b l
  | _, _ => false
def ansB (b : Bool) : Option (List (AV × Mem)) → Bool
  | some l => goB b l
  | none => false
def goI : Int → List (AV × Mem) → Bool
  | _, [] => true
  | n, (.int .i64 m, _) :: l => decide (m = n) && goI n l
  | _, _ => false
def ansI (n : Int) : Option (List (AV × Mem)) → Bool
  | some l => goI n l
  | none => false
theorem goB_mem {b : Bool} : ∀ {l : List (AV × Mem)}, goB b l = true → ∀ r ∈ l, r.1 = .bool b
  | [], _, r, hr => by cases hr
  | (v, M) :: l, h, r, hr => by
    cases v <;> first | (simp only [goB] at h; cases h; done) | skip
    rename_i c
    simp only [goB, Bool.and_eq_true, decide_eq_true_eq] at h
    rcases List.mem_cons.1 hr with rfl | hr
    · exact congrArg _ h.1
    · exact goB_mem h.2 r hr
theorem goI_mem {n : Int} : ∀ {l : List (AV × Mem)}, goI n l = true → ∀ r ∈ l, r.1 = .int .i64 n
  | [], _, r, hr => by cases hr
  | (v, M) :: l, h, r, hr => by
    cases v <;> first | (simp only [goI] at h; cases h; done) | skip
    rename_i k m
    cases k <;> first | (simp only [goI] at h; cases h; done) | skip
    simp only [goI, Bool.and_eq_true, decide_eq_true_eq] at h
    rcases List.mem_cons.1 hr with rfl | hr
    · exact congrArg _ h.1
    · exact goI_mem h.2 r hr
noncomputable def bools (K : Ev.CF) (F : FuncId) (p : Nat → Bool) : Nat → Bool
  | 0 => true
  | n + 1 => ansB (p n) (callsT Tryd.prog Ev.noFacts K 100000 60 F [.int .u8 (.ofNat n)] Mem.start) && bools K F p n
noncomputable def ints (K : Ev.CF) (F : FuncId) (p : Nat → Int) : Nat → Bool
  | 0 => true
  | n + 1 => ansI (p n) (callsT Tryd.prog Ev.noFacts K 100000 60 F [.int .u8 (.ofNat n)] Mem.start) && ints K F p n
theorem bools_at {K : Ev.CF} {F : FuncId} {p : Nat → Bool} : ∀ {n : Nat}, bools K F p n = true → ∀ c, c < n → ansB (p c) (callsT Tryd.prog Ev.noFacts K 100000 60 F [.int .u8 (.ofNat c)] Mem.start) = true
  | 0, _, c, hc => by omega
  | n + 1, h, c, hc => by
    rw [bools, Bool.and_eq_true] at h
    by_cases e : c = n
    · subst e; exact h.1
    · exact bools_at h.2 c (by omega)
theorem ints_at {K : Ev.CF} {F : FuncId} {p : Nat → Int} : ∀ {n : Nat}, ints K F p n = true → ∀ c, c < n → ansI (p c) (callsT Tryd.prog Ev.noFacts K 100000 60 F [.int .u8 (.ofNat c)] Mem.start) = true
  | 0, _, c, hc => by omega
  | n + 1, h, c, hc => by
    rw [ints, Bool.and_eq_true] at h
    by_cases e : c = n
    · subst e; exact h.1
    · exact ints_at h.2 c (by omega)
theorem mix : Tryd.prog.follows .mixedOrders = true := by kernel_rfl
theorem bools_ok {K : Ev.CF} (hK : CFok Tryd.prog K (fun _ => undef)) {F : FuncId} {p : Nat → Bool} (h : bools K F p 256 = true) (c : UInt8) (w : World) :
    Calls Tryd.prog F #[.int .u8 c.toNat] w fun e w' => e = .returned (.bool (p c.toNat)) ∧ Below w.heap.size w w' := by
  have h := bools_at h c.toNat (UInt8.toNat_lt c)
  cases e : callsT Tryd.prog Ev.noFacts K 100000 60 F [.int .u8 (.ofNat c.toNat)] Mem.start with
  | none => rw [e] at h; cases h
  | some l =>
    rw [e] at h
    have hall := goB_mem (show goB _ l = true from h)
    refine Calls.mono (callsT_ok hK mix 100000 60 _ _ F _ Mem.start l e rfl (fun _ => none) _ w (by simp only [VL, V]; exact ⟨_, _, rfl, rfl, rfl⟩) (MR.start w)) fun e w' he => ?_
    obtain ⟨r, hr, E', x, _, rfl, hx, hM, _⟩ := he
    rw [hall r hr] at hx
    exact ⟨by rw [hx.bool_inv], hM.low⟩
theorem ints_ok {K : Ev.CF} (hK : CFok Tryd.prog K (fun _ => undef)) {F : FuncId} {p : Nat → Int} (h : ints K F p 256 = true) (c : UInt8) (w : World) :
    Calls Tryd.prog F #[.int .u8 c.toNat] w fun e w' => e = .returned (.int .i64 (p c.toNat)) ∧ Below w.heap.size w w' := by
  have h := ints_at h c.toNat (UInt8.toNat_lt c)
  cases e : callsT Tryd.prog Ev.noFacts K 100000 60 F [.int .u8 (.ofNat c.toNat)] Mem.start with
  | none => rw [e] at h; cases h
  | some l =>
    rw [e] at h
    have hall := goI_mem (show goI _ l = true from h)
    refine Calls.mono (callsT_ok hK mix 100000 60 _ _ F _ Mem.start l e rfl (fun _ => none) _ w (by simp only [VL, V]; exact ⟨_, _, rfl, rfl, rfl⟩) (MR.start w)) fun e w' he => ?_
    obtain ⟨r, hr, E', x, _, rfl, hx, hM, _⟩ := he
    rw [hall r hr] at hx
    exact ⟨by rw [hx.int_inv], hM.low⟩
theorem lib : CFok Tryd.prog (Ev.indexByteT 22) (fun _ => undef) := Ev.indexByteT_ok Tryd.strings_IndexByte
end Bytes

set_option maxRecDepth 1000000
theorem blank_any (c : UInt8) (w : World) : Calls Tryd.prog 12 #[.int .u8 c.toNat] w fun e w' => e = .returned (.bool (blankN c.toNat)) ∧ Below w.heap.size w w' :=
  Bytes.bools_ok Bytes.lib (by kernel_rfl) c w
theorem small_any (c : UInt8) (w : World) : Calls Tryd.prog 56 #[.int .u8 c.toNat] w fun e w' => e = .returned (.bool (smallN c.toNat)) ∧ Below w.heap.size w w' :=
  Bytes.bools_ok Bytes.lib (by kernel_rfl) c w
theorem capital_any (c : UInt8) (w : World) : Calls Tryd.prog 59 #[.int .u8 c.toNat] w fun e w' => e = .returned (.bool (capN c.toNat)) ∧ Below w.heap.size w w' :=
  Bytes.bools_ok Bytes.lib (by kernel_rfl) c w
theorem digit_any (c : UInt8) (w : World) : Calls Tryd.prog 61 #[.int .u8 c.toNat] w fun e w' => e = .returned (.bool (digN c.toNat)) ∧ Below w.heap.size w w' :=
  Bytes.bools_ok Bytes.lib (by kernel_rfl) c w
theorem inName_any (c : UInt8) (w : World) : Calls Tryd.prog 57 #[.int .u8 c.toNat] w fun e w' => e = .returned (.bool (nameN c.toNat)) ∧ Below w.heap.size w w' :=
  Bytes.bools_ok Bytes.lib (by kernel_rfl) c w
theorem symbol_any (c : UInt8) (w : World) : Calls Tryd.prog 20 #[.int .u8 c.toNat] w fun e w' => e = .returned (.bool (symN c.toNat)) ∧ Below w.heap.size w w' :=
  Bytes.bools_ok Bytes.lib (by kernel_rfl) c w
theorem hex_any (c : UInt8) (w : World) : Calls Tryd.prog 63 #[.int .u8 c.toNat] w fun e w' => e = .returned (.int .i64 (hexI c.toNat)) ∧ Below w.heap.size w w' :=
  Bytes.ints_ok Bytes.lib (by kernel_rfl) c w
theorem hex1_any (c : UInt8) (w : World) : Calls Tryd.prog 62 #[.int .u8 c.toNat] w fun e w' => e = .returned (.bool (hexN c.toNat)) ∧ Below w.heap.size w w' :=
  Bytes.bools_ok Bytes.lib (by kernel_rfl) c w

end Go.Proofs.YtnidkdjapieinaaDoor
