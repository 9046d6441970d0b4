/- Contracts of lex.character, lex.char, lex.gap. -/
import Derived.Test.YtnidkdjapieinaaDoorLxH
namespace Go.Proofs.YtnidkdjapieinaaDoor
open Go.RowKit Go.Shelf

def charV : Option (Nat × Nat) → Value
  | some p => .tuple #[.int .i64 p.1, .int .i64 p.2]
  | none => .tuple #[.int .i64 0, .int .i64 0]
theorem char_no : Ending.returned (charV none) = .returned (.tuple #[.int .i64 0, .int .i64 0]) := rfl
theorem char_yes (c n : Nat) : Ending.returned (charV (some (c, n))) = .returned (.tuple #[.int .i64 c, .int .i64 n]) := rfl

theorem esc_cases (b : UInt8) : (b.toNat = 110 ∧ Lib.indexByte [110, 116, 92, 39, 34] b = 0) ∨ (b.toNat = 116 ∧ Lib.indexByte [110, 116, 92, 39, 34] b = 1) ∨ (b.toNat = 92 ∧ Lib.indexByte [110, 116, 92, 39, 34] b = 2) ∨ (b.toNat = 39 ∧ Lib.indexByte [110, 116, 92, 39, 34] b = 3) ∨ (b.toNat = 34 ∧ Lib.indexByte [110, 116, 92, 39, 34] b = 4) ∨
    ((b.toNat ≠ 110 ∧ b.toNat ≠ 116 ∧ ¬ (b.toNat = 92 ∨ b.toNat = 39 ∨ b.toNat = 34)) ∧ Lib.indexByte [110, 116, 92, 39, 34] b = -1) := by
  by_cases h : b = 110 ∨ b = 116 ∨ b = 92 ∨ b = 39 ∨ b = 34
  · rcases h with rfl | rfl | rfl | rfl | rfl <;> decide
  · simp only [not_or] at h
    obtain ⟨h1, h2, h3, h4, h5⟩ := h
    have e : ∀ n : Nat, n < 256 → b ≠ UInt8.ofNat n → b.toNat ≠ n := fun n hn hne he => hne (by rw [← he]; simp)
    refine .inr (.inr (.inr (.inr (.inr ⟨⟨e 110 (by omega) h1, e 116 (by omega) h2, ?_⟩, ?_⟩))))
    · rintro (g | g | g)
      · exact e 92 (by omega) h3 g
      · exact e 39 (by omega) h4 g
      · exact e 34 (by omega) h5 g
    · simp only [Lib.indexByte]
      simp [Ne.symm h1, Ne.symm h2, Ne.symm h3, Ne.symm h4, Ne.symm h5]

theorem hexc_any (c : UInt8) (w : World) : Calls Tryd.prog 80 #[.int .u8 c.toNat] w fun e w' => e = .returned (.bool (hexN c.toNat)) ∧ Below w.heap.size w w' :=
  Bytes.bools_ok Bytes.lib (by kernel_rfl) c w
theorem hexc_enter : ∀ args w, (callFunc 80 args).run Tryd.prog w = .ok (.enter 80 args) w := enters_of Tryd.func80 (by kernel_rfl) rfl

theorem nonempty (s : ByteArray) (h : 0 < s.size) : s.toList.isEmpty = false := by
  rw [Lib.toList_data, head_of s h]; rfl
theorem head_eq (s : ByteArray) (a : UInt8) (r : List UInt8) (hl : s.data.toList = a :: r) : ∃ h : 0 < s.size, s[0] = a := by
  have hs0 : 0 < s.size := by have := congrArg List.length hl; simp at this; show 0 < s.data.toList.length; simp; omega
  refine ⟨hs0, ?_⟩
  have := head_of s hs0
  rw [hl] at this
  exact ((List.cons.inj this).1).symm
theorem tail_ext (s : ByteArray) (a : UInt8) (r : List UInt8) (hl : s.data.toList = a :: r) : (s.extract 1 s.size).data.toList = r := by
  rw [drop_data, hl]; rfl

set_option maxRecDepth 100000 in
set_option maxHeartbeats 8000000 in
theorem character_plain (s : ByteArray) (q : UInt8) (a : UInt8) (r : List UInt8) (hl : s.data.toList = a :: r) (h : a.toNat ≠ 92 ∨ a = q) (w : World) :
    Calls Tryd.prog 65 #[.string s, .int .u8 q.toNat] w fun e w' => e = .returned (charV (charK s.data.toList q.toNat)) ∧ Below w.heap.size w w' := by
  obtain ⟨hs0, ha⟩ := head_eq s a r hl
  have hne := nonempty s hs0
  by_cases h1 : a.toNat < 32 ∨ 126 < a.toNat ∨ a.toNat = q.toNat
  · have hr : charK s.data.toList q.toNat = none := by rw [hl]; simp only [charK]; rw [if_pos h1]
    have Hr := Lib.hid hr
    clear hr hl
    rcases h1 with h1 | h1 | h1
    · have d1 : decide ((s[0].toNat : Int) < 32) = true := by rw [ha]; simp; omega
      clear ha h h1
      go_enter Tryd.func65, Tryd.ntmps65
      go_wp2
      all_goals
        go_ret2
        exact ⟨by rw [Hr.out]; rfl, Below.refl _ _⟩
    · have d1 : decide ((s[0].toNat : Int) < 32) = false := by rw [ha]; simp; omega
      have d2 : decide ((126 : Int) < (s[0].toNat : Int)) = true := by rw [ha]; simp; omega
      clear ha h h1
      go_enter Tryd.func65, Tryd.ntmps65
      go_wp2
      all_goals
        go_ret2
        exact ⟨by rw [Hr.out]; rfl, Below.refl _ _⟩
    · have d3 : ((s[0].toNat : Int) == (q.toNat : Int)) = true := by rw [ha, beq_iff_eq]; omega
      by_cases g1 : a.toNat < 32
      · have d1 : decide ((s[0].toNat : Int) < 32) = true := by rw [ha]; simp; omega
        clear ha h h1 g1
        go_enter Tryd.func65, Tryd.ntmps65
        go_wp2
        go_ret2
        exact ⟨by rw [Hr.out]; rfl, Below.refl _ _⟩
      · have d1 : decide ((s[0].toNat : Int) < 32) = false := by rw [ha]; simp; omega
        by_cases g2 : 126 < a.toNat
        · have d2 : decide ((126 : Int) < (s[0].toNat : Int)) = true := by rw [ha]; simp; omega
          clear ha h h1 g1 g2
          go_enter Tryd.func65, Tryd.ntmps65
          go_wp2
          go_ret2
          exact ⟨by rw [Hr.out]; rfl, Below.refl _ _⟩
        · have d2 : decide ((126 : Int) < (s[0].toNat : Int)) = false := by rw [ha]; simp; omega
          clear ha h h1 g1 g2
          go_enter Tryd.func65, Tryd.ntmps65
          go_wp2
          go_ret2
          exact ⟨by rw [Hr.out]; rfl, Below.refl _ _⟩
  · have h92 : a.toNat ≠ 92 := by
      rcases h with h | h
      · exact h
      · exact fun _ => h1 (.inr (.inr (by rw [h])))
    have hr : charK s.data.toList q.toNat = some (a.toNat, 1) := by rw [hl]; simp only [charK]; rw [if_neg h1, if_pos h92]
    have Hr := Lib.hid hr
    have d1 : decide ((s[0].toNat : Int) < 32) = false := by rw [ha]; simp; omega
    have d2 : decide ((126 : Int) < (s[0].toNat : Int)) = false := by rw [ha]; simp; omega
    have d3 : ((s[0].toNat : Int) == (q.toNat : Int)) = false := by rw [ha, beq_eq_false_iff_ne]; omega
    have d4 : ((s[0].toNat : Int) != 92) = true := by rw [ha, bne_iff_ne]; omega
    rw [← ha] at Hr
    have hby : s[0].toNat ≤ 255 := by have := UInt8.toNat_lt s[0]; omega
    clear hr hl ha h h1 h92
    go_enter Tryd.func65, Tryd.ntmps65
    go_wp2
    go_ret2
    exact ⟨by rw [Hr.out]; rfl, Below.refl _ _⟩
set_option maxRecDepth 100000 in
set_option maxHeartbeats 4000000 in
theorem character_nil (q : UInt8) (w : World) :
    Calls Tryd.prog 65 #[.string ⟨#[]⟩, .int .u8 q.toNat] w fun e w' => e = .returned (charV none) ∧ Below w.heap.size w w' := by
  go_enter Tryd.func65, Tryd.ntmps65
  go_wp2
  go_ret2
  exact ⟨rfl, Below.refl _ _⟩
/-- An escape. -/
theorem char_esc (q : Nat) (hq : q ≠ 92) (b : UInt8) (r : List UInt8) : charK (92 :: b :: r) q =
    if b.toNat = 110 then some (10, 2) else if b.toNat = 116 then some (9, 2)
        else if b.toNat = 92 ∨ b.toNat = 39 ∨ b.toNat = 34 then some (b.toNat, 2)
        else if b.toNat = 120 then
          (if spanB hexN r = 0 then none else match wholeK 16 (r.take (spanB hexN r)) with
            | none => none
            | some x => if 255 < x then none else some (x, 2 + spanB hexN r))
        else (if spanB digN (b :: r) = 0 then none else match wholeK 10 ((b :: r).take (spanB digN (b :: r))) with
            | none => none
            | some x => if 255 < x then none else some (x, 1 + spanB digN (b :: r))) := by
  simp only [charK]
  rw [if_neg (by simp; omega), if_neg (by decide)]
  rfl
set_option maxRecDepth 100000 in
set_option maxHeartbeats 8000000 in
theorem character_esc0 (s : ByteArray) (hs : s.size ≤ 100000) (q : UInt8) (hq : q.toNat ≠ 92) (hl : s.data.toList = [92]) (w : World) :
    Calls Tryd.prog 65 #[.string s, .int .u8 q.toNat] w fun e w' => e = .returned (charV (charK s.data.toList q.toNat)) ∧ Below w.heap.size w w' := by
  obtain ⟨hs0, ha⟩ := head_eq s _ _ hl
  have hne := nonempty s hs0
  have hr : charK s.data.toList q.toNat = none := by rw [hl]; simp only [charK]; rw [if_neg (by simp; omega), if_neg (by decide)]
  have Hr := Lib.hid hr
  have d1 : decide ((s[0].toNat : Int) < 32) = false := by rw [ha]; rfl
  have d2 : decide ((126 : Int) < (s[0].toNat : Int)) = false := by rw [ha]; rfl
  have d3 : ((s[0].toNat : Int) == (q.toNat : Int)) = false := by rw [ha, beq_eq_false_iff_ne]; simp; omega
  have d4 : ((s[0].toNat : Int) != 92) = false := by rw [ha]; rfl
  have hd : (s.extract 1 s.size).toList.isEmpty = true := by rw [Lib.toList_data, tail_ext s _ _ hl]; rfl
  have hs1 : 1 ≤ s.size := hs0
  clear hr hl ha
  go_enter Tryd.func65, Tryd.ntmps65
  go_wp2
  go_ret2
  exact ⟨by rw [Hr.out]; rfl, Below.refl _ _⟩
end Go.Proofs.YtnidkdjapieinaaDoor
