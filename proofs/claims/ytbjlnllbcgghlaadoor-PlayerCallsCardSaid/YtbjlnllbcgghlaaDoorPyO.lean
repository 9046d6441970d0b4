/- The scanner's next line. -/
import Derived.Test.YtbjlnllbcgghlaaDoorPyN
namespace Go.Proofs.YtbjlnllbcgghlaaDoor
open Go.RowKit Go.Shelf
set_option linter.unusedSimpArgs false
set_option linter.unusedVariables false

/-- What next answers at a place. -/
def NextSays (s : ByteArray) (at_ : Nat) (t : ByteArray) (en : Bool) (at2 : Nat) : Prop :=
  (en = true → ∃ o, FirstNl (s.data.toList.drop at_) o ∧ t = mkW ((s.data.toList.drop at_).take o) ∧ at2 = at_ + o + 1) ∧ (en = false → NoNl (s.data.toList.drop at_)) ∧ t.size ≤ s.size ∧ at2 ≤ s.size ∧ at_ ≤ at2
theorem drop_data (s : ByteArray) (a : Nat) : (s.extract a s.size).data.toList = s.data.toList.drop a := by
  cases s with | mk d =>
  simp [ByteArray.extract, ByteArray.copySlice, ByteArray.size, List.take_of_length_le]
set_option maxRecDepth 100000 in
set_option maxHeartbeats 8000000 in
theorem next_any (s : ByteArray) (at_ b : Nat) (w : World) (hR : Blk w b #[.string s, .int .i64 at_]) (hat : at_ ≤ s.size) (hs : s.size ≤ 1000000) :
    Calls Tryd.prog 22 #[.pointer (some ⟨b, 0, none⟩)] w fun e w' => ∃ t en at2, e = .returned (.tuple #[.string t, .int .i64 at_, .bool en]) ∧ NextSays s at_ t en at2 ∧ Blk w' b #[.string s, .int .i64 (at2 : Nat)] ∧ w.grownBy w' (some b) := by
  have c0 : w.cell? ⟨b, 0, none⟩ = _ := hR.cell 0
  have c1 : w.cell? ⟨b, 1, none⟩ = _ := hR.cell 1
  simp only [List.getElem?_toArray, List.getElem?_cons_zero, List.getElem?_cons_succ] at c0 c1
  have f1 := hR.free 1
  have hi0 : (0 : Int) ≤ (at_ : Int) := by omega
  have hi1 : (at_ : Int) ≤ (s.size : Int) := by omega
  obtain ⟨t, ht⟩ : ∃ t, s.extract at_ s.size = t := ⟨_, rfl⟩
  have KI := Tryd.strings_IndexByte t 10 w
  rw [← ht, drop_data] at KI
  have z0 : t.size ≤ s.size := by rw [← ht, ByteArray.size_extract]; omega
  obtain ⟨n, hn⟩ : ∃ n, Lib.indexByte (s.data.toList.drop at_) (10 : Int).toNat.toUInt8 = n := ⟨_, rfl⟩
  have hge : -1 ≤ n := by rw [← hn]; exact Lib.indexByte_ge _ _
  rw [hn, ht] at KI
  have HT := Lib.hid ht
  have HR := Lib.hid hR
  clear hR
  go_enter Tryd.func22, Tryd.ntmps22
  by_cases h0 : n < 0
  · have d1 : decide (n < 0) = true := by simp; omega
    have hno : NoNl (s.data.toList.drop at_) := Lib.indexByte_none (c := 10) (by rw [show (10 : UInt8) = (10 : Int).toNat.toUInt8 from rfl, hn]; omega)
    have HS := Lib.hid (show NextSays s at_ t false at_ from ⟨fun e => (by cases e), fun _ => hno, z0, hat, Nat.le_refl _⟩)
    clear hno hn ht
    go_upto_region 3 with (go_at_call 32; rw [HT.out]; refine KI.mono ?_; rintro r1 w1 ⟨rfl, rfl⟩)
    all_goals
      go_wp2
      refine bodyPost_ret (v := .tuple #[.string t, .int .i64 at_, .bool false]) (by simp [results, Tryd.results22, go_sem, HT.out]) rfl ?_
      exact ⟨t, false, at_, rfl, HS.out, HR.out, grown_refl _ _⟩
  · obtain ⟨o, rfl⟩ : ∃ o : Nat, n = o := ⟨n.toNat, by omega⟩
    have d1 : decide ((o : Int) < 0) = false := by simp
    have ho : FirstNl (s.data.toList.drop at_) o := Lib.indexByte_some (c := 10) hn
    have hlt := first_lt ho
    obtain ⟨u, hu⟩ : ∃ u, s.extract at_ (at_ + o) = u := ⟨_, rfl⟩
    have HU := Lib.hid hu
    have HS := Lib.hid (show NextSays s at_ u true (at_ + o + 1) from ⟨fun _ => ⟨o, ho, by rw [← hu, piece_eq], rfl⟩, fun e => (by cases e), by rw [← hu, ByteArray.size_extract]; omega, by omega, by omega⟩)
    have w1 : IntKind.i64.wrap ((at_ : Int) + (o : Int)) = ((at_ + o : Nat) : Int) := by rw [IntWalk.i64_in _ (by omega)]; omega
    have w2 : IntKind.i64.wrap (((at_ + o : Nat) : Int) + 1) = ((at_ + o + 1 : Nat) : Int) := by rw [IntWalk.i64_in _ (by omega)]; omega
    have i2 : ((at_ + o : Nat) : Int) ≤ (s.size : Int) := by omega
    have i3 : (at_ : Int) ≤ ((at_ + o : Nat) : Int) := by omega
    have HR2 := Lib.hid (HR.out.set 1 (.int .i64 ((at_ + o + 1 : Nat) : Int)) (by simp))
    have HG := Lib.hid (grown_set w b 1 (.int .i64 ((at_ + o + 1 : Nat) : Int)))
    clear hn ht ho
    go_upto_region 3 with (go_at_call 32; rw [HT.out]; refine KI.mono ?_; rintro r1 w1 ⟨rfl, rfl⟩)
    all_goals
      go_wp2
      refine bodyPost_ret (v := .tuple #[.string u, .int .i64 at_, .bool true]) (by simp [results, Tryd.results22, go_sem, HU.out]) rfl ?_
      exact ⟨u, true, _, rfl, HS.out, HR2.out, HG.out⟩
end Go.Proofs.YtbjlnllbcgghlaaDoor
