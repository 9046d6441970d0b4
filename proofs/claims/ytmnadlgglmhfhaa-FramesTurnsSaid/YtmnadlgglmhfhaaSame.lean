/- Contracts of thunkmillkit.SameWords and SameFrame at what is the same: true. Conditions: at most 2^40 words. -/
import Derived.Test.YtmnadlgglmhfhaaNew
import Derived.Laws.StructEq
namespace Go.Proofs.Ytmnadlgglmhfhaa
open Go.RowKit
set_option linter.unusedSimpArgs false

theorem word_guard (op : BinOp) (x y : Operand) (xs ys : Array Value) (w : World) : (eqGuard op 38 x y (.agg xs) (.agg ys)).run Try.prog w = .ok () w :=
  run_eqGuard_agg w op 38 x y xs ys (by kernel_rfl)

theorem word_equal (a b c d : Int) (w : World) : (Op.equalIn 10000 38 (.agg #[.int .i64 a, .int .i64 b]) (.agg #[.int .i64 c, .int .i64 d])).run Try.prog w = .ok (a == c && b == d) w := by
  have u3 := Try.underlying3
  have a3 := Try.isAgg3
  have z3 := Try.sizeOf3
  have u4 := Try.underlying2
  have a4 := Try.isAgg2
  have z4 := Try.sizeOf2
  have hS : Try.prog.underlying 38 = some (.struct (Try.prog.fieldsOf 38)) := by kernel_rfl
  have hp : Try.prog.stoodInHeld 38 = false := by kernel_rfl
  rw [show (10000 : Nat) = 9999 + 1 from rfl, run_equalIn_agg w 9999 38 _ _ hS hp]
  simp only [Program.fieldsOf, Try.underlying38]
  go_simp
  by_cases h1 : a = c <;> by_cases h2 : b = d <;> simp [h1, h2]

theorem word_neq (a b c d : Int) (w : World) : (binOp .neq 38 (.agg #[.int .i64 a, .int .i64 b]) (.agg #[.int .i64 c, .int .i64 d])).run Try.prog w = .ok (.bool (!(a == c && b == d))) w := by
  rw [run_neq_struct, word_equal]; rfl
theorem word_neq_same (a b : Int) (w : World) : (binOp .neq 38 (.agg #[.int .i64 a, .int .i64 b]) (.agg #[.int .i64 a, .int .i64 b])).run Try.prog w = .ok (.bool false) w := by
  rw [word_neq]; simp

set_option maxHeartbeats 2000000 in
theorem sameWords_yes (v1 v2 : Value) (ws : List Wd) (w : World) (h1 : WAt w v1 ws) (h2 : WAt w v2 ws) (hl : ws.length ≤ 1000000000000) :
    Calls Try.prog 22 #[v1, v2] w fun e w' => e = .returned (.bool true) ∧ Below w.heap.size w w' := by
  obtain ⟨a1, c1, rfl, h1⟩ := h1
  obtain ⟨a2, c2, rfl, h2⟩ := h2
  obtain ⟨N, hN⟩ : ∃ n, ws.length = n := ⟨_, rfl⟩
  have hws : ∀ j, j < N → ∃ x y, (flat ws)[2 * j]? = some (.int .i64 x) ∧ (flat ws)[2 * j + 1]? = some (.int .i64 y) := fun j h => ⟨_, _, flat_get ws j (by omega)⟩
  rw [hN] at h1 h2 hl ⊢
  have H1 := Lib.hid h1; have H2 := Lib.hid h2; have Hw := Lib.hid hws
  clear h1 h2 hws hN
  have hwg := word_guard
  have hwn := word_neq_same
  go_enter Try.func22, Try.ntmps22
  go_wp2
  go_loopw [5] (fun i wr => ∃ k : Nat, i = .int .i64 k ∧ k ≤ N ∧ Below w.heap.size w wr) (fun i _ => N - (intOf i).toNat)
  case atStart => exact ⟨0, rfl, Nat.zero_le _, Below.refl _ _⟩
  case round =>
    obtain ⟨k, rfl, hk, hb⟩ := hrel
    by_cases hlt : k < N
    · obtain ⟨b1, o1, rfl, s1, q1⟩ := H1.out (by omega)
      obtain ⟨b2, o2, rfl, s2, q2⟩ := H2.out (by omega)
      obtain ⟨x, y, m1, m2⟩ := Hw.out k hlt
      rw [Nat.mul_comm] at m1 m2
      have e1 := (hb.cell (p := ⟨b1, o1 + k * 2, none⟩) s1).trans (q1 (k * 2) _ m1)
      have e2 := (hb.cell (p := ⟨b1, o1 + k * 2 + 1, none⟩) s1).trans (q1 (k * 2 + 1) _ m2)
      have e3 := (hb.cell (p := ⟨b2, o2 + k * 2, none⟩) s2).trans (q2 (k * 2) _ m1)
      have e4 := (hb.cell (p := ⟨b2, o2 + k * 2 + 1, none⟩) s2).trans (q2 (k * 2 + 1) _ m2)
      clear q1 q2 m1 m2
      have hltI : (k : Int) < (N : Int) := by omega
      go_wp2
      go_quiet (fail)
      go_wp2
      go_roundw
      case rel => exact ⟨k + 1, by go_num, by omega, below_drewN hb _⟩
      case measure => simp [intOf]; omega
    · go_wp2
      go_ret
      exact ⟨rfl, hb⟩

set_option maxRecDepth 100000 in
set_option maxHeartbeats 2000000 in
theorem sameFrame_yes (k o n : Int) (s : ByteArray) (v1 d1 v2 d2 : Value) (ws ds : List Wd) (w : World) (h1 : WAt w v1 ws) (h2 : WAt w v2 ws) (k1 : WAt w d1 ds) (k2 : WAt w d2 ds) (hl : ws.length ≤ 1000000000000) (hm : ds.length ≤ 1000000000000) :
    Calls Try.prog 16 #[.agg #[.int .i64 k, .int .i64 o, .int .i64 n, .string s, v1, d1], .agg #[.int .i64 k, .int .i64 o, .int .i64 n, .string s, v2, d2]] w fun e w' => e = .returned (.bool true) ∧ Below w.heap.size w w' := by
  have m1 := fun W (hW : Below w.heap.size w W) => sameWords_yes v1 v2 ws W (h1.below hW (Nat.le_refl _)) (h2.below hW (Nat.le_refl _)) hl
  have m2 := fun W (hW : Below w.heap.size w W) => sameWords_yes d1 d2 ds W (k1.below hW (Nat.le_refl _)) (k2.below hW (Nat.le_refl _)) hm
  have M1 := Lib.hid m1; have M2 := Lib.hid m2
  obtain ⟨a1, c1, rfl, _⟩ := h1
  obtain ⟨a2, c2, rfl, _⟩ := h2
  obtain ⟨a3, c3, rfl, _⟩ := k1
  obtain ⟨a4, c4, rfl, _⟩ := k2
  clear m1 m2
  go_enter Try.func16, Try.ntmps16
  go_upto_region 1 with fail
  generalize hW0 : (w.alloc (Obj.cells #[.int .i64 k, .int .i64 o, .int .i64 n, .string s, .slice a1 ws.length c1, .slice a3 ds.length c3] 32)).alloc (Obj.cells #[.int .i64 k, .int .i64 o, .int .i64 n, .string s, .slice a2 ws.length c2, .slice a4 ds.length c4] 32) = W0
  have hbel : Below w.heap.size w W0 := by rw [← hW0]; ((repeat (first | exact Below.refl _ _ | (refine Below.alloc ?_ (by first | (simp [World.setCell]; done) | (simp [World.setCell]; omega)) _) | (refine Below.setCell ?_ (by first | (simp [World.setCell]; done) | (simp [World.setCell]; omega)) _) | refine Below.drew ?_)))
  have B0 : Blk W0 w.heap.size #[.int .i64 k, .int .i64 o, .int .i64 n, .string s, .slice a1 ws.length c1, .slice a3 ds.length c3] := by rw [← hW0]; exact (Blk.new w _ _).alloc _
  have B1 : Blk W0 (w.heap.size + 1) #[.int .i64 k, .int .i64 o, .int .i64 n, .string s, .slice a2 ws.length c2, .slice a4 ds.length c4] := by rw [← hW0]; have h := Blk.new (w.alloc (Obj.cells #[.int .i64 k, .int .i64 o, .int .i64 n, .string s, .slice a1 ws.length c1, .slice a3 ds.length c3] 32)) #[.int .i64 k, .int .i64 o, .int .i64 n, .string s, .slice a2 ws.length c2, .slice a4 ds.length c4] 32; rwa [World.size_alloc] at h
  clear hW0
  have c0 := B0.cell
  have e0 := B1.cell
  go_wp2_with (first | (go_at_call 22; with_reducible refine (M1.out W0 hbel).mono ?_; rintro e w1 ⟨rfl, hb1⟩; have D0 := B0.below hb1 B0.lt; have D1 := B1.below hb1 B1.lt; have c1 := D0.cell; have e1 := D1.cell; have l1 := hbel.trans (hb1.mono hbel.size)) | (go_at_call 22; with_reducible refine (M2.out _ l1).mono ?_; rintro e w2 ⟨rfl, hb2⟩; have l2 := l1.trans (hb2.mono l1.size)))
  exact bodyPost_ret (v := .bool true) (by simp [results, Try.results16, go_sem]) rfl ⟨rfl, l2⟩

end Go.Proofs.Ytmnadlgglmhfhaa
