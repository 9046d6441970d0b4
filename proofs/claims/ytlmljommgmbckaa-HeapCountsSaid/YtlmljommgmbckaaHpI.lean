/- The contracts of New and places. -/
import Derived.Test.YtlmljommgmbckaaHpG
import Derived.Laws.MakeOwn
namespace Go.Proofs.Ytlmljommgmbckaa
open Go.RowKit
set_option linter.unusedSimpArgs false

set_option linter.unusedSimpArgs false in
set_option maxRecDepth 100000 in
set_option maxHeartbeats 4000000 in
theorem fine_any (n : Int) (w : World) : Calls Try.prog 37 #[.int .i64 n] w fun e w' => e = .returned (.bool (decide (64 ≤ n) && decide (n ≤ 4194304))) ∧ w' = w := by
  by_cases c : 64 ≤ n
  · have d : decide (64 ≤ n) = true := by simpa using c
    go_enter Try.func37, Try.ntmps37
    go_wp2
    go_ret
    exact ⟨by simp [c], rfl⟩
  · have d : decide (64 ≤ n) = false := by simpa using c
    go_enter Try.func37, Try.ntmps37
    go_wp2
    go_ret
    exact ⟨by simp [c], rfl⟩

theorem made_flat (n : Nat) : madeCells (Value.agg #[.int .i64 0, .int .i64 0]).cells (n * 2) = (flat (List.replicate n (0, 0))).toArray := by
  have e1 : flat (List.replicate n (0, 0)) = List.replicate (n * 2) (Value.int .i64 0) := by
    induction n with
    | zero => rfl
    | succ n ih => rw [List.replicate_succ, flat_cons, ih, show (n + 1) * 2 = n * 2 + 1 + 1 by omega, List.replicate_succ, List.replicate_succ]
  have e2 : ∀ i : Nat, (#[Value.int .i64 0, Value.int .i64 0] : Array Value)[i % 2]! = .int .i64 0 := by
    intro i
    rcases Nat.mod_two_eq_zero_or_one i with h | h <;> rw [h] <;> rfl
  rw [e1]
  show ((Array.range (n * 2)).map fun i => (#[Value.int .i64 0, Value.int .i64 0] : Array Value)[i % 2]!) = _
  simp only [e2]
  apply Array.ext'
  simp [List.map_const']
theorem run_make_words (n : Nat) (hn : n ≤ 100000000) (W : World) : (Instr.makeSlice 33 (.int .i64 (n : Int)) (.int .i64 (n : Int))).run Try.prog W = .ok (.slice (some ⟨W.heap.size, 0, none⟩) n n) (W.alloc (.cells (flat (List.replicate n (0, 0))).toArray 32)) := by
  obtain ⟨i0, hi, hz0, hz1, hz2⟩ := info_parts infoW
  have := run_make (P := Try.prog) W 33 32 i0 _ zeroW hi hz0 .i64 .i64 (n : Int) (n : Int) (by omega) (Int.le_refl _) (by rw [hz2]; omega) (by omega)
  rw [hz1] at this
  simpa [made_flat] using this

theorem heap_at {W : World} {o : Obj} {g : Nat} (h : g = W.heap.size) : (W.alloc o).heap[g]? = some o := by subst h; exact heap_alloc_new W o
theorem heap_down {W : World} {o : Obj} {g : Nat} {r : Option Obj} (h : g < W.heap.size) (k : W.heap[g]? = r) : (W.alloc o).heap[g]? = r := (Below.heap_alloc _ _ _ h).trans k
theorem look_test (w : World) (A B : Array Value) (t : TypeId) : ((((w.alloc (.cells A t)).alloc (.map #[] 0)).alloc (.cells B t)).alloc (.map #[] 0)).heap[w.heap.size + 1 + 1]? = some (.cells B t) := by ((repeat (first | (refine heap_at ?_; (simp; done)) | (refine heap_down ?_ ?_; focus (first | (simp; done) | (simp; omega))))))
theorem look_test2 (w : World) (A B : Array Value) (t : TypeId) : ((((w.alloc (.cells A t)).alloc (.map #[] 0)).alloc (.cells B t)).alloc (.map #[] 0)).heap[w.heap.size + 1]? = some (.map #[] 0) := by ((repeat (first | (refine heap_at ?_; (simp; done)) | (refine heap_down ?_ ?_; focus (first | (simp; done) | (simp; omega))))))
theorem look_test3 (w : World) (A B : Array Value) (t : TypeId) : ((((w.alloc (.cells A t)).alloc (.map #[] 0)).alloc (.cells B t)).alloc (.map #[] 0)).heap[w.heap.size + 1 + 1 + 1]? = some (.map #[] 0) := by ((repeat (first | (refine heap_at ?_; (simp; done)) | (refine heap_down ?_ ?_; focus (first | (simp; done) | (simp; omega))))))
theorem look_test4 (w : World) (A B : Array Value) (t : TypeId) : Below w.heap.size w ((((w.alloc (.cells A t)).alloc (.map #[] 0)).alloc (.cells B t)).alloc (.map #[] 0)) := by ((repeat (first | exact Below.refl _ _ | (refine Below.alloc ?_ (by first | (simp [World.setCell]; done) | (simp [World.setCell]; omega)) _) | (refine Below.setCell ?_ (by first | (simp [World.setCell]; done) | (simp [World.setCell]; omega)) _) | refine Below.drew ?_)))
theorem look_test5 (w : World) (A B : Array Value) (t : TypeId) : w.heap.size + 1 + 1 + 1 + 1 = ((((w.alloc (.cells A t)).alloc (.map #[] 0)).alloc (.cells B t)).alloc (.map #[] 0)).heap.size := by simp
theorem new_inv {w X : World} {nur old ng : Nat} {A1 : Array Value} (hA1 : (flat (List.replicate (nur + 2 * old) (0, 0))).toArray = A1) (h64 : 64 ≤ nur) (h2000 : nur ≤ 2000) (h64' : 64 ≤ old) (h2000' : old ≤ 2000) (b g g2 mn ms : Nat) (t : TypeId)
    (hsz : b = X.heap.size) (hg : X.heap[g]? = some (.cells A1 32 (0, 0))) (hm : X.heap[ms]? = some (.map #[] 0)) (hb : Below w.heap.size w X) (h1 : w.heap.size ≤ g) (h2 : w.heap.size ≤ ms) :
    ∃ b' L, Ending.returned (.tuple #[.pointer (some ⟨b, 0, none⟩), .int .i64 0]) = .returned (.tuple #[.pointer (some ⟨b', 0, none⟩), .int .i64 0]) ∧
      HInv (X.alloc (.cells #[.int .i64 nur, .int .i64 old, .int .i64 0, .int .i64 0, .int .i64 0, .slice (some ⟨g, 0, none⟩) (nur + 2 * old) (nur + 2 * old), .slice (some ⟨g2, 0, none⟩) ng ng, .slice none 0 0, .map (some mn), .map (some ms), .bool true, .bool false] t)).drew b' L ⟨nur, old, 0, List.replicate (nur + 2 * old) (0, 0), ng, []⟩ ∧
      (∀ k, HFoot b' L k → w.heap.size ≤ k) ∧ Below w.heap.size w (X.alloc (.cells #[.int .i64 nur, .int .i64 old, .int .i64 0, .int .i64 0, .int .i64 0, .slice (some ⟨g, 0, none⟩) (nur + 2 * old) (nur + 2 * old), .slice (some ⟨g2, 0, none⟩) ng ng, .slice none 0 0, .map (some mn), .map (some ms), .bool true, .bool false] t)).drew := by
  have lg := (Array.getElem?_eq_some_iff.1 hg).1
  have lm := (Array.getElem?_eq_some_iff.1 hm).1
  subst hsz
  refine ⟨X.heap.size, ⟨g, .slice (some ⟨g2, 0, none⟩) ng ng, .slice none 0 0, mn, ms⟩, rfl, ?_, ?_, (hb.alloc hb.size _).drew⟩
  · refine { blk := ?_, wh := ?_, mks := ?_, bg := by show X.heap.size ≠ g; omega, bm := by show X.heap.size ≠ ms; omega, gm := ?_, vg := ⟨_, _, rfl⟩, len := by simp, nur := by show nur ≤ _; omega, old := by show old ≤ _; omega, top := Nat.zero_le _, num := ?_, pos := by show 0 < nur; omega, opos := by show 0 < old; omega }
    · have := (Blk.new X #[.int .i64 nur, .int .i64 old, .int .i64 0, .int .i64 0, .int .i64 0, .slice (some ⟨g, 0, none⟩) (nur + 2 * old) (nur + 2 * old), .slice (some ⟨g2, 0, none⟩) ng ng, .slice none 0 0, .map (some mn), .map (some ms), .bool true, .bool false] t).drew
      unfold HL.cells
      simp only [List.length_replicate]
      exact this
    · show _ = some (Obj.cells (flat (List.replicate (nur + 2 * old) (0, 0))).toArray _ (0, 0))
      rw [hA1]
      exact (Below.heap_alloc _ _ _ lg).trans hg
    · exact ⟨#[], 0, (Below.heap_alloc _ _ _ lm).trans hm, rfl, fun e he => by simp at he, MapKept.stamped_empty 0⟩
    · intro e
      have e' : g = ms := e
      rw [e', hm] at hg
      cases hg
    · intro x hx
      have := List.eq_of_mem_replicate hx
      subst this
      exact ⟨by decide, by decide⟩
  · intro k hk
    rcases hk with rfl | rfl | rfl
    · exact hb.size
    · exact h1
    · exact h2

set_option maxRecDepth 100000 in
set_option maxHeartbeats 4000000 in
theorem hnew_ok (nur old ng : Nat) (w : World) (h1 : 64 ≤ nur) (h2 : nur ≤ 2000) (h3 : 64 ≤ old) (h4 : old ≤ 2000) (h5 : ng ≤ 2000) :
    Calls Try.prog 13 #[.int .i64 nur, .int .i64 old, .int .i64 ng] w fun e w' => ∃ b L, e = .returned (.tuple #[.pointer (some ⟨b, 0, none⟩), .int .i64 0]) ∧ HInv w' b L ⟨nur, old, 0, List.replicate (nur + 2 * old) (0, 0), ng, []⟩ ∧ (∀ k, HFoot b L k → w.heap.size ≤ k) ∧ Below w.heap.size w w' := by
  have k1 := fun W => fine_any nur W
  have k2 := fun W => fine_any old W
  rw [show (decide ((64 : Int) ≤ (nur : Int)) && decide ((nur : Int) ≤ 4194304)) = true from by simp; omega] at k1
  rw [show (decide ((64 : Int) ≤ (old : Int)) && decide ((old : Int) ≤ 4194304)) = true from by simp; omega] at k2
  have K1 := Lib.hid k1; have K2 := Lib.hid k2
  have hg : decide ((4194304 : Int) < (ng : Int)) = false := by simp; omega
  have hg2 : decide (4194304 < ng) = false := by simp; omega
  clear k1 k2
  have hw1 : IntKind.i64.wrap (2 * (old : Int)) = 2 * (old : Int) := IntWalk.i64_in _ (by omega)
  have hw2 : IntKind.i64.wrap ((nur : Int) + 2 * (old : Int)) = (nur : Int) + 2 * (old : Int) := IntWalk.i64_in _ (by omega)
  have hm1 := fun W => run_make_words (nur + 2 * old) (by omega) W
  have hm2 := fun W => run_make_words ng (by omega) W
  rw [show ((nur + 2 * old : Nat) : Int) = (nur : Int) + 2 * (old : Int) by omega] at hm1
  obtain ⟨A1, hA1⟩ : ∃ A, (flat (List.replicate (nur + 2 * old) (0, 0))).toArray = A := ⟨_, rfl⟩
  obtain ⟨A2, hA2⟩ : ∃ A, (flat (List.replicate ng (0, 0))).toArray = A := ⟨_, rfl⟩
  rw [hA1] at hm1
  rw [hA2] at hm2
  have HA1 := Lib.hid hA1
  have hmm : ∀ W, (Instr.makeMap 65 none).run Try.prog W = .ok (.map (some W.heap.size)) (W.alloc (.map #[] 0)) := fun W => by simp [Instr.makeMap]
  have hng0 : decide ((ng : Int) < 0) = false := by simp
  clear hA1 hA2
  go_enter Try.func13, Try.ntmps13
  go_upto_region 4 with (first | (go_at_call_of 37 (Value.int .i64 nur); with_reducible refine (K1.out _).mono ?_; rintro e w1 ⟨rfl, rfl⟩) | (go_at_call_of 37 (Value.int .i64 old); with_reducible refine (K2.out _).mono ?_; rintro e w2 ⟨rfl, rfl⟩))
  go_region_with fail
  all_goals go_wp2
  all_goals
    refine bodyPost_ret (v := .tuple #[.pointer (some ⟨w2.heap.size + 1 + 1 + 1 + 1, 0, none⟩), .int .i64 0]) (by simp [results, Try.results13, go_sem, Act.put]) rfl ?_
    exact new_inv HA1.out h1 h2 h3 h4 _ _ _ _ _ _ (by simp) (by ((repeat (first | (refine heap_at ?_; (simp; done)) | (refine heap_down ?_ ?_; focus (first | (simp; done) | (simp; omega))))))) (by ((repeat (first | (refine heap_at ?_; (simp; done)) | (refine heap_down ?_ ?_; focus (first | (simp; done) | (simp; omega))))))) (by ((repeat (first | exact Below.refl _ _ | (refine Below.alloc ?_ (by first | (simp [World.setCell]; done) | (simp [World.setCell]; omega)) _) | (refine Below.setCell ?_ (by first | (simp [World.setCell]; done) | (simp [World.setCell]; omega)) _) | refine Below.drew ?_)))) (by omega) (by omega)

end Go.Proofs.Ytlmljommgmbckaa
