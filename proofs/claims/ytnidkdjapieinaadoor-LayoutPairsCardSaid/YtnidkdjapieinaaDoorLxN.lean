/- Contract of place.over: a place is moved over bytes. -/
import Derived.Test.YtnidkdjapieinaaDoorLxV
namespace Go.Proofs.YtnidkdjapieinaaDoor
open Go.RowKit Go.Shelf

def plC (i : Nat) (p : Nat × Nat) : Array Value := #[.int .i64 i, .int .i64 p.1, .int .i64 p.2]
theorem over_at (l : List UInt8) (k : Nat) (h : k < l.length) (p : Nat × Nat) : overL p (l.take (k + 1)) = overB (overL p (l.take k)) l[k] := by
  unfold overL
  rw [List.take_succ_eq_append_getElem h, List.foldl_append]
  rfl
theorem over_bound : ∀ (l : List UInt8) (p : Nat × Nat), (overL p l).1 ≤ p.1 + l.length ∧ (overL p l).2 ≤ p.2 + 8 * l.length ∧ (1 ≤ p.2 → 1 ≤ (overL p l).2)
  | [], p => ⟨Nat.le_refl _, by simp [overL], fun h => h⟩
  | c :: l, p => by
    obtain ⟨h1, h2, h3⟩ := over_bound l (overB p c)
    have e : overL p (c :: l) = overL (overB p c) l := rfl
    rw [e, List.length_cons]
    have : (overB p c).1 ≤ p.1 + 1 ∧ (overB p c).2 ≤ max 1 (p.2 + 8) ∧ (1 ≤ p.2 → 1 ≤ (overB p c).2) := by
      unfold overB
      split
      · exact ⟨by simp, by simp, by simp⟩
      · split
        · exact ⟨by simp, by simp only; omega, fun _ => by simp only; omega⟩
        · exact ⟨by simp, by simp, fun _ => by simp⟩
    refine ⟨by omega, by omega, fun h => h3 (this.2.2 h)⟩

set_option maxRecDepth 100000 in
set_option maxHeartbeats 8000000 in
theorem over_any (pb i : Nat) (p : Nat × Nat) (s : ByteArray) (hs : s.size ≤ 100000) (hi : i ≤ 1000000) (hp1 : p.1 ≤ 1000000) (hp2 : p.2 ≤ 100000000) (hp0 : 1 ≤ p.2) (w : World) (hb : Blk w pb (plC i p)) :
    Calls Tryd.prog 13 #[.pointer (some ⟨pb, 0, none⟩), .string s] w fun e w' => e = .returned (.tuple #[]) ∧ Blk w' pb (plC (i + s.size) (overL p s.data.toList)) ∧ Only pb w w' := by
  have hsl : s.data.toList.length = s.size := rfl
  go_enter Tryd.func13, Tryd.ntmps13
  go_wp2
  go_loopw [7] (fun n wr => ∃ k : Nat, n = .int .i64 k ∧ k ≤ s.size ∧ Blk wr pb (plC i (overL p (s.data.toList.take k))) ∧ Only pb w wr) (fun n _ => s.size - (intOf n).toNat)
  case atStart => exact ⟨0, rfl, Nat.zero_le _, hb, Only.refl _ _⟩
  case round =>
    obtain ⟨k, rfl, hk, hB, hO⟩ := hrel
    obtain ⟨o1, o2, o3⟩ := over_bound (s.data.toList.take k) p
    have o3 := o3 hp0
    rw [List.length_take] at o1 o2
    have c0 := hB.cell 0
    have c1 := hB.cell 1
    have c2 := hB.cell 2
    have f0 := hB.free 0
    have f1 := hB.free 1
    have f2 := hB.free 2
    by_cases hlt : k < s.size
    · have hlt2 : decide ((k : Int) < s.size) = true := by simp; omega
      have hlt3 : decide (k < s.size) = true := by simp; omega
      have ho := over_at s.data.toList k hlt p
      obtain ⟨⟨ln, cl⟩, hq⟩ : ∃ q, overL p (s.data.toList.take k) = q := ⟨_, rfl⟩
      rw [hq] at hB c0 c1 c2 ho o1 o2 o3
      simp only [plC, List.getElem?_toArray, List.getElem?_cons_zero, List.getElem?_cons_succ] at c0 c1 c2 o1 o2 o3
      have hln : ln ≤ 1100000 := by omega
      have hcl : cl ≤ 101000000 := by omega
      clear o1 o2 hq
      by_cases h10 : s.data.toList[k].toNat = 10
      · have e1 : ((s[k].toNat : Int) == 10) = true := by rw [beq_iff_eq]; exact congrArg Int.ofNat h10
        have Hn := Lib.hid (ho.trans (by unfold overB; rw [if_pos h10]))
        clear ho h10
        go_wp2
        go_roundw
        case rel => exact ⟨k + 1, by go_num, by omega, by rw [Hn.out]; exact (hB.set 1 _ (by simp [plC])).set 2 _ (by simp [plC]), (hO.set 1 _).set 2 _⟩
        case measure => simp [intOf]; omega
      · have e1 : ((s[k].toNat : Int) == 10) = false := by rw [beq_eq_false_iff_ne]; intro h; exact h10 (Int.ofNat.inj h)
        by_cases h9 : s.data.toList[k].toNat = 9
        · have e2 : ((s[k].toNat : Int) == 9) = true := by rw [beq_iff_eq]; exact congrArg Int.ofNat h9
          have Hn := Lib.hid (ho.trans (by unfold overB; rw [if_neg h10, if_pos h9]))
          clear ho h10 h9
          go_wp2
          go_still_tail 14, (by kernel_rfl)
          change wpList _ _ _ _ _ wr.drew
          go_wp2
          go_roundw
          case rel =>
            refine ⟨k + 1, by go_num, by omega, ?_, (hO.set 2 _).drew⟩
            have e : plC i (ln, cl + (8 - (cl - 1) % 8)) = (plC i (ln, cl)).setIfInBounds 2 (.int .i64 ((cl : Int) + (8 - ((cl : Int) - 1) % 8))) := by
              rw [show (cl : Int) + (8 - ((cl : Int) - 1) % 8) = ((cl + (8 - (cl - 1) % 8) : Nat) : Int) by omega]; rfl
            rw [Hn.out]
            show Blk _ pb (plC i (ln, cl + (8 - (cl - 1) % 8)))
            rw [e]
            exact (hB.set 2 _ (by simp [plC])).drew
          case measure => simp [intOf]; omega
        · have e2 : ((s[k].toNat : Int) == 9) = false := by rw [beq_eq_false_iff_ne]; intro h; exact h9 (Int.ofNat.inj h)
          have Hn := Lib.hid (ho.trans (by unfold overB; rw [if_neg h10, if_neg h9]))
          clear ho h10 h9
          go_wp2
          go_roundw
          case rel => exact ⟨k + 1, by go_num, by omega, by rw [Hn.out]; exact hB.set 2 _ (by simp [plC]), hO.set 2 _⟩
          case measure => simp [intOf]; omega
    · have hlt2 : decide ((k : Int) < s.size) = false := by simp; omega
      have hlt3 : decide (k < s.size) = false := by simp; omega
      obtain rfl : k = s.size := by omega
      have hall : overL p (s.data.toList.take s.size) = overL p s.data.toList := by rw [List.take_of_length_le (Nat.le_of_eq hsl)]
      rw [hall] at hB c0 c1 c2
      have HB := Lib.hid hB
      simp only [plC, List.getElem?_toArray, List.getElem?_cons_zero, List.getElem?_cons_succ] at c0 c1 c2
      clear hall o1 o2 o3
      go_wp2
      go_end0
      exact ⟨rfl, HB.out.set 0 _ (by simp [plC]), hO.set 0 _⟩
end Go.Proofs.YtnidkdjapieinaaDoor
