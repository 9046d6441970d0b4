/- Contract of thunkmillref01.Lines: a slice of the text's lines, in memory of its own. Condition: the text has at most 100000 bytes. -/
import Derived.Maps.AppendAt
import Derived.Test.YtiachpjejebhjaaLines
import Derived.Test.YtiachpjejebhjaaRefA
namespace Go.Proofs.Ytiachpjejebhjaa
open Go.RowKit

theorem run_cut (s : ByteArray) (a b : Nat) (h : a ≤ b) (hb : b ≤ s.size) (w : World) :
    (Instr.slice 9 (.string s) (some (.int .i64 (a : Int))) (some (.int .i64 (b : Int))) none).run Try.prog w = .ok (.string (s.extract a b)) w := by
  rw [run_slice_string w 9 s .i64 .i64 a b Try.underlying9 (by omega) (by omega) (by omega)]
  rfl

theorem ownsRow_from {W : World} {b : Nat} {e : TypeId} {size : Nat} {v : Value} {n : Nat} {xs : List Value} (h : W.ownsRow b e size v n xs) {k : Nat} (hk : v.ownBlock = some k) : b ≤ k := by
  rcases h.2 with ⟨rfl, _⟩ | ⟨g, cap, cur, rfl, hg, _⟩
  · simp [Value.ownBlock] at hk
  · simp [Value.ownBlock] at hk; omega

set_option maxRecDepth 100000 in
set_option maxHeartbeats 2000000 in
theorem LinesR_any (s : ByteArray) (hs : s.size ≤ 100000) (w : World) :
    Calls Try.prog 18 #[.string s] w fun e W' => ∃ v, e = .returned v ∧ W'.ownsRow w.heap.size 9 1 v (segs s.data.toList).length ((segs s.data.toList).map (encL s)) ∧ Below w.heap.size w W' := by
  obtain ⟨i0, hi, hz0, hz1, hz2⟩ := info_parts infoStr
  have hl0 : s.data.toList.length = s.size := rfl
  have hN2 := segs_len s.data.toList
  go_enter Try.func18, Try.ntmps18
  go_wp2
  go_loopw [3, 4, 5] (fun out fr i wr => ∃ (k f : Nat) (pre : List (Nat × Nat)), i = .int .i64 k ∧ k ≤ s.size ∧ fr = .int .i64 f ∧ f ≤ k ∧ pre ++ segsGo f k (s.data.toList.drop k) = segs s.data.toList ∧
      wr.ownsRow w.heap.size 9 1 out pre.length (pre.map (encL s)) ∧ Below w.heap.size w wr) (fun _ _ i _ => s.size - (intOf i).toNat)
  case atStart => exact ⟨0, 0, [], rfl, Nat.zero_le _, rfl, Nat.le_refl _, rfl, World.ownsRow_nil _ _ _ _, Below.refl _ _⟩
  case round =>
    obtain ⟨k, f, pre, rfl, hk, rfl, hf, hseg, hrow, hbw⟩ := hrel
    have hpl : pre.length ≤ 100001 := by
      have h := congrArg List.length hseg
      rw [List.length_append] at h; omega
    by_cases hlt : k < s.size
    · have ebyte : s.data.toList[k]'hlt = s[k] := rfl
      have hdrop : s.data.toList.drop k = s[k] :: s.data.toList.drop (k + 1) := by rw [List.drop_eq_getElem_cons hlt, ebyte]
      rw [hdrop, segsGo] at hseg
      by_cases h10 : s[k] = 10
      · rw [if_pos h10] at hseg
        have hseg' : (pre ++ [(f, k)]) ++ segsGo (k + 1) (k + 1) (s.data.toList.drop (k + 1)) = segs s.data.toList := by rw [← hseg]; simp
        have Hs := Lib.hid hseg'
        have hb : ((s[k].toNat : Int) == 10) = true := by rw [ten_iff]; simp [h10]
        have hsl := run_cut s f k hf (by omega)
        clear hseg hseg' hdrop h10 ebyte
        go_wp2_with (at_builtin; refine wpList_append_own _ rfl _ _ 23 rfl w.heap.size 9 i0 (.string ByteArray.empty) 1 16 Try.underlying23 hi hz0 hz1 hz2 rfl (by decide) _ _ _ rfl (hrow.alloc _) ⟨wr.heap.size, 0, none⟩ 1 1 [encL s (f, k)] rfl rfl (cell_one_new _ _ _) (by simp [Value.oneCell']) (by unfold maxLen; omega) (by omega) (by have := hbw.size; simp; omega) ?_; intro v2 w2 hrow2 hgrow _)
        have hbw2 : Below w.heap.size w w2 := (hbw.alloc hbw.size _).grown hgrow (by have := hbw.size; simp; omega) (fun j e => ownsRow_from hrow e)
        go_wp2
        go_roundw
        case rel => exact ⟨k + 1, k + 1, pre ++ [(f, k)], by go_num, by omega, by go_num, Nat.le_refl _, Hs.out, by simpa using hrow2, hbw2⟩
        case measure => simp [intOf]; omega
      · rw [if_neg h10] at hseg
        have Hs := Lib.hid hseg
        have hb : ((s[k].toNat : Int) == 10) = false := by rw [ten_iff]; simp [h10]
        clear hseg hdrop h10 ebyte
        go_wp2
        go_roundw
        case rel => exact ⟨k + 1, f, pre, by go_num, by omega, rfl, by omega, Hs.out, hrow, hbw⟩
        case measure => simp [intOf]; omega
    · have hke : s.data.toList.drop k = [] := List.drop_eq_nil_of_le (by omega)
      rw [hke, segsGo, show k = s.size from by omega] at hseg
      have hfs : f ≤ s.size := by omega
      have Hs := Lib.hid hseg
      clear hseg hke
      go_wp2_with (at_builtin; refine wpList_append_own _ rfl _ _ 23 rfl w.heap.size 9 i0 (.string ByteArray.empty) 1 16 Try.underlying23 hi hz0 hz1 hz2 rfl (by decide) _ _ _ rfl (hrow.alloc _) ⟨wr.heap.size, 0, none⟩ 1 1 [encL s (f, s.size)] rfl rfl (cell_one_new _ _ _) (by simp [Value.oneCell']) (by unfold maxLen; omega) (by omega) (by have := hbw.size; simp; omega) ?_; intro v2 w2 hrow2 hgrow _)
      have hbw2 : Below w.heap.size w w2 := (hbw.alloc hbw.size _).grown hgrow (by have := hbw.size; simp; omega) (fun j e => ownsRow_from hrow e)
      go_wp2
      go_ret
      refine ⟨v2, rfl, ?_, hbw2⟩
      rw [← Hs.out]; simpa using hrow2

end Go.Proofs.Ytiachpjejebhjaa
