/- Contract of lex.run: how many bytes at the beginning a function takes. Condition: the text has at most 100000 bytes. -/
import Derived.Test.YtnidkdjapieinaaDoorLxB
import Derived.WalkKit
import Derived.WalkSpells
import Derived.WalkSmall
import Derived.Deep.RegionHeld3
import Derived.Deep.RegionWith
import Derived.Deep.QuietTactic
import Derived.BigQuiet
import Derived.Outline
import Derived.Lib.Hide
import Derived.Lib.IndexBytes
import Derived.Shelf.Abstract
namespace Go.Proofs.YtnidkdjapieinaaDoor
open Go.RowKit Go.Shelf

theorem chain {w a b : World} (h : Below w.heap.size w a) (k : Below a.heap.size a b) : Below w.heap.size w b := h.trans (k.mono h.size)

theorem spanB_at (p : Nat → Bool) (l : List UInt8) (k : Nat) (h : k < l.length) : spanB p (l.drop k) = if p l[k].toNat then spanB p (l.drop (k + 1)) + 1 else 0 := by
  rw [List.drop_eq_getElem_cons h, spanB]
theorem spanB_end (p : Nat → Bool) (l : List UInt8) (k : Nat) (h : l.length ≤ k) : spanB p (l.drop k) = 0 := by
  rw [List.drop_eq_nil_of_le h, spanB]
theorem spanB_le (p : Nat → Bool) : ∀ l : List UInt8, spanB p l ≤ l.length
  | [] => Nat.le_refl _
  | c :: l => by rw [spanB]; split <;> simp [spanB_le p l]

set_option maxRecDepth 100000 in
set_option maxHeartbeats 4000000 in
theorem run_any (F : FuncId) (eg : ∀ args w, (callFunc F args).run Tryd.prog w = .ok (.enter F args) w) (p : Nat → Bool)
    (hp : ∀ (c : UInt8) (w : World), Calls Tryd.prog F #[.int .u8 c.toNat] w fun e w' => e = .returned (.bool (p c.toNat)) ∧ Below w.heap.size w w')
    (s : ByteArray) (hs : s.size ≤ 100000) (w : World) :
    Calls Tryd.prog 11 #[.string s, .func (.func F) #[] #[]] w fun e w' => e = .returned (.int .i64 (spanB p s.data.toList)) ∧ Below w.heap.size w w' := by
  have Hp := Lib.hid hp; clear hp
  have hl0 : s.data.toList.length = s.size := rfl
  go_enter Tryd.func11, Tryd.ntmps11
  go_wp2
  go_loopw [5] (fun n wr => ∃ k : Nat, n = .int .i64 k ∧ k ≤ s.size ∧ Hid (spanB p s.data.toList = k + spanB p (s.data.toList.drop k)) ∧ Below w.heap.size w wr) (fun n _ => s.size - (intOf n).toNat)
  case atStart => exact ⟨0, rfl, Nat.zero_le _, Lib.hid (by simp), Below.refl _ w⟩
  case round =>
    obtain ⟨k, rfl, hk, Hk, B⟩ := hrel
    have Bw := Lib.hid B; clear B
    by_cases hlt : k < s.size
    · have hlt2 : decide ((k : Int) < s.size) = true := by simp; omega
      have Hcall := Lib.hid (Hp.out s[k] wr)
      cases hq : p s[k].toNat with
      | true =>
        have Hn : Hid (spanB p s.data.toList = (k + 1 : Nat) + spanB p (s.data.toList.drop (k + 1))) := Lib.hid (by
          rw [Hk.out, spanB_at p _ k hlt, if_pos (show p (s.data.toList[k]).toNat = true from hq)]; omega)
        have Hcall := Lib.hid (hq ▸ Hcall.out)
        go_wp2_with (go_at_fn F; refine Hcall.out.mono ?_; rintro e w' ⟨rfl, b1⟩)
        go_roundw
        case rel => exact ⟨k + 1, by go_num, by omega, Hn, chain Bw.out b1⟩
        case measure => simp [intOf]; omega
      | false =>
        have Hn : Hid (spanB p s.data.toList = k) := Lib.hid (by
          rw [Hk.out, spanB_at p _ k hlt, if_neg (show ¬ p (s.data.toList[k]).toNat = true by rw [show (s.data.toList[k]) = s[k] from rfl, hq]; exact Bool.false_ne_true)]; rfl)
        have Hcall := Lib.hid (hq ▸ Hcall.out)
        go_wp2_with (go_at_fn F; refine Hcall.out.mono ?_; rintro e w' ⟨rfl, b1⟩)
        go_ret
        exact ⟨by rw [Hn.out]; rfl, chain Bw.out b1⟩
    · have hlt2 : decide ((k : Int) < s.size) = false := by simp; omega
      have Hn : Hid (spanB p s.data.toList = k) := Lib.hid (by rw [Hk.out, spanB_end p _ k (by omega)]; rfl)
      go_wp2
      go_ret
      exact ⟨by rw [Hn.out]; rfl, Bw.out⟩

theorem blank_enter : ∀ args w, (callFunc 12 args).run Tryd.prog w = .ok (.enter 12 args) w := enters_of Tryd.func12 (by kernel_rfl) rfl
theorem symbol_enter : ∀ args w, (callFunc 20 args).run Tryd.prog w = .ok (.enter 20 args) w := enters_of Tryd.func20 (by kernel_rfl) rfl
theorem inName_enter : ∀ args w, (callFunc 57 args).run Tryd.prog w = .ok (.enter 57 args) w := enters_of Tryd.func57 (by kernel_rfl) rfl
theorem digit_enter : ∀ args w, (callFunc 61 args).run Tryd.prog w = .ok (.enter 61 args) w := enters_of Tryd.func61 (by kernel_rfl) rfl
theorem hex1_enter : ∀ args w, (callFunc 62 args).run Tryd.prog w = .ok (.enter 62 args) w := enters_of Tryd.func62 (by kernel_rfl) rfl
end Go.Proofs.YtnidkdjapieinaaDoor
