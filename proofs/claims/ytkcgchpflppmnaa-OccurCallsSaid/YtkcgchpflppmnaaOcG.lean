/- The names of bindings, the program's. -/
import Derived.Test.YtkcgchpflppmnaaOcF
namespace Go.Proofs.Ytkcgchpflppmnaa
open Go.RowKit
set_option linter.unusedSimpArgs false
set_option linter.unusedVariables false

set_option maxRecDepth 100000 in
set_option maxHeartbeats 8000000 in
theorem names_any (v : Value) (l : List ByteArray) (w : World) (h : BNs w v l) (hn : l.length ≤ 10000000) :
    Calls Try.prog 50 #[v] w fun e w' => ∃ v', e = .returned v' ∧ SOwn w' w.heap.size v' l ∧ Below w.heap.size w w' := by
  obtain ⟨a, ca, rfl, ha⟩ := h
  obtain ⟨N, hN⟩ : ∃ N, l.length = N := ⟨_, rfl⟩
  have HN := Lib.hid hN
  rw [hN] at hn ⊢
  have Ha := Lib.hid ha
  obtain ⟨i0, hi, hz0, hz1, hz2⟩ := info_parts infoS
  clear ha hN
  go_enter Try.func50, Try.ntmps50
  go_wp2
  go_loopw [3, 5, 8] (fun v _ i wr => ∃ k : Nat, i = .int .i64 k ∧ k ≤ N ∧ Hid (SOwn wr w.heap.size v (l.take k)) ∧ Below w.heap.size w wr) (fun _ _ i _ => N - (intOf i).toNat)
  case atStart => exact ⟨0, rfl, Nat.zero_le _, Lib.hid (World.ownsRow_nil _ _ _ _), Below.refl _ _⟩
  case round =>
    obtain ⟨k, rfl, hk, HO, hB⟩ := hrel
    by_cases hlt : k < N
    · have hlt2 : decide ((k : Int) < (N : Int)) = true := by simp; omega
      have hlt3 : decide (k < N) = true := by simp; omega
      have hkt : k < l.length := by rw [HN.out]; exact hlt
      obtain ⟨p, o, rfl, hp, hat⟩ := Ha.out (by omega)
      obtain ⟨x, hx⟩ : ∃ x, l[k]? = some x := ⟨_, List.getElem?_eq_getElem hkt⟩
      obtain ⟨y1, y3, y2, q4, q5, q6, q7, a4, b4, a5, b5, a6, b6, a7, b7, hcs⟩ := hat k x hx
      have c0 := (hB.cell (p := ⟨p, o + k * 8 + 0, none⟩) hp).trans (hcs 0 _ rfl)
      have c1 := (hB.cell (p := ⟨p, o + k * 8 + 1, none⟩) hp).trans (hcs 1 _ rfl)
      have c2 := (hB.cell (p := ⟨p, o + k * 8 + 2, none⟩) hp).trans (hcs 2 _ rfl)
      have c3 := (hB.cell (p := ⟨p, o + k * 8 + 3, none⟩) hp).trans (hcs 3 _ rfl)
      have c4 := (hB.cell (p := ⟨p, o + k * 8 + 4, none⟩) hp).trans (hcs 4 _ rfl)
      have c5 := (hB.cell (p := ⟨p, o + k * 8 + 5, none⟩) hp).trans (hcs 5 _ rfl)
      have c6 := (hB.cell (p := ⟨p, o + k * 8 + 6, none⟩) hp).trans (hcs 6 _ rfl)
      have c7 := (hB.cell (p := ⟨p, o + k * 8 + 7, none⟩) hp).trans (hcs 7 _ rfl)
      rw [Nat.add_zero] at c0
      have hi0 : (0 : Int) ≤ (k : Int) := by omega
      have HX := Lib.hid hx
      have hlen : (l.take k).length = k := by rw [List.length_take, HN.out]; omega
      have HLen := Lib.hid hlen
      have hs := hB.size
      have HB := Lib.hid hB
      clear hat hx hcs hlen
      go_upto_region 5 with fail
      have R2 := Blk.new wr #[.string x, .int .i64 y1, .string y2, .int .i64 y3, .slice q4 a4 b4, .slice q5 a5 b5, .slice q6 a6 b6, .slice q7 a7 b7] 56
      have B2 := hB.alloc hs (.cells #[.string x, .int .i64 y1, .string y2, .int .i64 y3, .slice q4 a4 b4, .slice q5 a5 b5, .slice q6 a6 b6, .slice q7 a7 b7] 56)
      have O2 := Lib.hid (show SOwn (wr.alloc (.cells #[.string x, .int .i64 y1, .string y2, .int .i64 y3, .slice q4 a4 b4, .slice q5 a5 b5, .slice q6 a6 b6, .slice q7 a7 b7] 56)) w.heap.size _ (l.take k) from HO.out.alloc _)
      generalize wr.alloc (.cells #[.string x, .int .i64 y1, .string y2, .int .i64 y3, .slice q4 a4 b4, .slice q5 a5 b5, .slice q6 a6 b6, .slice q7 a7 b7] 56) = W2 at R2 B2 O2 ⊢
      generalize wr.heap.size = r2 at R2 ⊢
      have d0 := R2.cell 0
      simp only [List.getElem?_toArray, List.getElem?_cons_zero, List.getElem?_cons_succ] at d0
      have hs2 := B2.size
      have HB2 := Lib.hid B2
      clear R2 B2 c0 c1 c2 c3 c4 c5 c6 c7
      go_wp2_with (at_builtin; refine wpList_append_own _ rfl _ _ 24 rfl w.heap.size 9 i0 (.string ⟨#[]⟩) 1 16 Try.underlying24 hi hz0 hz1 hz2 rfl (by decide) _ (l.take k).length (strV (l.take k)) rfl (O2.out.alloc _) ⟨W2.heap.size, 0, none⟩ 1 1 [.string x] rfl rfl ?news (by intro u hu; simp at hu; subst hu; rfl) (by rw [HLen.out]; unfold maxLen; omega) (by rw [HLen.out]; omega) (by simp; omega) ?_)
      case news =>
        intro j u hj
        have := (Blk.new W2 #[.string x] 9).cell j
        rw [show (⟨W2.heap.size, 0, none⟩ : Addr).add j = ⟨W2.heap.size, j, none⟩ from by unfold Addr.add; split <;> simp_all]
        rw [this]
        simpa using hj
      intro v' w6 o6 g6 n6
      have e6 : l.take (k + 1) = l.take k ++ [x] := by rw [List.take_add_one, HX.out]; rfl
      have B6 : Below w.heap.size w w6 := (HB2.out.alloc hs2 _).grown g6 (by simp; omega) (fun i e => own_from O2.out i e)
      have HO6 := Lib.hid (show SOwn w6 w.heap.size v' (l.take (k + 1)) by
        unfold SOwn strV
        rw [e6, List.length_append, List.map_append, List.length_take]
        exact o6)
      clear o6 g6 n6 e6
      go_wp2
      go_roundw
      case rel => exact ⟨k + 1, by go_num, by omega, HO6, B6⟩
      case measure => simp [intOf]; omega
    · have hlt2 : decide ((k : Int) < (N : Int)) = false := by simp; omega
      have hlt3 : decide (k < N) = false := by simp; omega
      obtain rfl : k = N := by omega
      have HO := Lib.hid (show SOwn wr w.heap.size _ l by have := HO.out; rwa [take_all HN.out] at this)
      go_wp2
      go_ret
      exact ⟨_, rfl, HO.out, hB⟩
end Go.Proofs.Ytkcgchpflppmnaa
