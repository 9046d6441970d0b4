/- Calls of a heap in memory (acts), read alone; the contracts of small and Pick. -/
import Derived.Test.YtlmljommgmbckaaHpH
import Derived.Test.YtlmljommgmbckaaHpI
import Derived.Test.YtlmljommgmbckaaEvQ
import Derived.Test.YtlmljommgmbckaaHpJ
namespace Go.Proofs.Ytlmljommgmbckaa
open Go.RowKit

structure ActH where
  k : Int
  o : Int
  i : Int
  a : Int
  wk : Int
  wn : Int
  vw : Value
  us : List Wd
  raw : Bool

def ActH.cells (x : ActH) : List Value := [.int .i64 x.k, .int .i64 x.o, .int .i64 x.i, .int .i64 x.a, .int .i64 x.wk, .int .i64 x.wn, x.vw, .bool x.raw]

structure ActHOk (W : World) (x : ActH) : Prop where
  w : WAt W x.vw x.us
  r : Ranged x.us
  a : -9223372036854775808 ≤ x.a ∧ x.a ≤ 9223372036854775807
  n : -9223372036854775808 ≤ x.wn ∧ x.wn ≤ 9223372036854775807
  l : x.us.length ≤ 140737488355328

def ActsH (W : World) (v : Value) (xs : List ActH) : Prop :=
  ∃ (a : Option Addr) (cap : Nat), v = .slice a xs.length cap ∧ (0 < xs.length → ∃ b o, a = some ⟨b, o, none⟩ ∧ b < W.heap.size ∧ ∀ i x, xs[i]? = some x → ∀ j c, x.cells[j]? = some c → W.cell? ⟨b, o + i * 8 + j, none⟩ = some c) ∧ ∀ x ∈ xs, ActHOk W x

theorem ActHOk.below {B : Nat} {W W' : World} {x : ActH} (h : ActHOk W x) (hb : Below B W W') (hB : W.heap.size ≤ B) : ActHOk W' x := ⟨h.w.below hb hB, h.r, h.a, h.n, h.l⟩
theorem ActsH.below {B : Nat} {W W' : World} {v : Value} {xs : List ActH} (h : ActsH W v xs) (hb : Below B W W') (hB : W.heap.size ≤ B := by exact Nat.le_refl _) : ActsH W' v xs := by
  obtain ⟨a, cap, hv, hc, ho⟩ := h
  refine ⟨a, cap, hv, fun hl => ?_, fun x hx => (ho x hx).below hb hB⟩
  obtain ⟨b, o, h1, h2, h3⟩ := hc hl
  exact ⟨b, o, h1, Nat.lt_of_lt_of_le h2 hb.size, fun i x hx j c hj => (hb.cell (p := ⟨b, o + i * 8 + j, none⟩) (by show b < B; omega)).trans (h3 i x hx j c hj)⟩

def smallH (xs : List ActH) : Bool := xs.all (fun x => decide (x.us.length ≤ 100)) && decide (xs.length ≤ 120)
theorem smallH_no (xs : List ActH) (k : Nat) (x : ActH) (h : xs[k]? = some x) (hx : 100 < x.us.length) : smallH xs = false := by
  unfold smallH
  rw [Bool.and_eq_false_iff]
  left
  rw [List.all_eq_false]
  exact ⟨x, List.mem_of_getElem? h, by simp; omega⟩
theorem smallH_all (xs : List ActH) (N : Nat) (hN : xs.length = N) (h : ∀ j x, j < N → xs[j]? = some x → x.us.length ≤ 100) : smallH xs = decide ((N : Int) ≤ 120) := by
  unfold smallH
  have : xs.all (fun x => decide (x.us.length ≤ 100)) = true := by
    rw [List.all_eq_true]
    intro x hx
    obtain ⟨j, hj, rfl⟩ := List.getElem_of_mem hx
    exact decide_eq_true (h j _ (by omega) (List.getElem?_eq_getElem hj))
  rw [this, hN]
  simp
  omega

set_option maxRecDepth 100000 in
set_option maxHeartbeats 4000000 in
theorem small_any (v : Value) (xs : List ActH) (w : World) (h : ActsH w v xs) (hl : xs.length ≤ 1000000000000000) :
    Calls Try.prog 12 #[v] w fun e w' => e = .returned (.bool (smallH xs)) ∧ Below w.heap.size w w' := by
  obtain ⟨a, cap, rfl, hc, ho⟩ := h
  obtain ⟨N, hN⟩ : ∃ n, xs.length = n := ⟨_, rfl⟩
  have HN := Lib.hid hN
  rw [hN] at hc hl ⊢
  have Hc := Lib.hid hc; have Ho := Lib.hid ho
  clear hc ho hN
  go_enter Try.func12, Try.ntmps12
  go_wp2
  go_loopw [3] (fun i wr => ∃ k : Nat, i = .int .i64 k ∧ k ≤ N ∧ (∀ j x, j < k → xs[j]? = some x → x.us.length ≤ 100) ∧ Below w.heap.size w wr) (fun i _ => N - (intOf i).toNat)
  case atStart => exact ⟨0, rfl, Nat.zero_le _, fun j x hj => by omega, Below.refl _ _⟩
  case round =>
    obtain ⟨k, rfl, hk, hs, hb⟩ := hrel
    have Hs := Lib.hid hs
    clear hs
    by_cases hlt : k < N
    · obtain ⟨b, o, rfl, s1, q1⟩ := Hc.out (by omega)
      obtain ⟨x, hx⟩ : ∃ x, xs[k]? = some x := ⟨xs[k]'(by rw [HN.out]; exact hlt), List.getElem?_eq_getElem _⟩
      have hxm : x ∈ xs := List.mem_of_getElem? hx
      obtain ⟨aw, cw, e1, _⟩ := (Ho.out x hxm).w
      have q := q1 k x hx
      have Hx := Lib.hid hx
      have r6 := (hb.cell (p := ⟨b, o + k * 8 + 6, none⟩) s1).trans (q 6 _ rfl)
      rw [e1] at r6
      obtain ⟨lw, hlw⟩ : ∃ l, x.us.length = l := ⟨_, rfl⟩
      rw [hlw] at r6
      have Hlw := Lib.hid hlw
      have hltI : (k : Int) < (N : Int) := by omega
      clear q q1 hxm hx hlw e1
      by_cases c1 : 100 < lw
      · have d1 : decide ((100 : Int) < (lw : Int)) = true := by simp; omega
        have hno : smallH xs = false := smallH_no xs k _ Hx.out (by rw [Hlw.out]; exact c1)
        have Hno := Lib.hid hno
        clear hno
        go_wp2
        go_ret
        exact ⟨by rw [Hno.out]; rfl, hb⟩
      have d1 : decide ((100 : Int) < (lw : Int)) = false := by simp; omega
      go_wp2
      go_roundw
      case rel =>
        refine ⟨k + 1, by go_num, by omega, fun j y hj hy => ?_, hb⟩
        by_cases e : j = k
        · subst e
          rw [Hx.out] at hy
          cases hy
          rw [Hlw.out]
          omega
        · exact Hs.out j y (by omega) hy
      case measure => simp [intOf]; omega
    · have e : smallH xs = decide ((N : Int) ≤ 120) := smallH_all xs N HN.out (fun j x hj => Hs.out j x (by omega))
      have He := Lib.hid e
      clear e
      go_wp2
      go_ret
      exact ⟨by rw [He.out]; rfl, hb⟩

set_option maxRecDepth 100000 in
set_option maxHeartbeats 4000000 in
theorem pick_any (k : Int) (w : World) : Calls Try.prog 17 #[.int .i64 k, .int .i64 3] w fun e w' => (∃ r : Int, e = .returned (.int .i64 r)) ∧ Below w.heap.size w w' := by
  go_enter Try.func17, Try.ntmps17
  go_wp2
  all_goals
    go_ret
    exact ⟨⟨_, rfl⟩, Below.refl _ _⟩

theorem livesRuns : Ev.isTrue (Ev.calls Try.prog Ev.noFacts 100000 60 9 [] Ev.Mem.start) = true := by kernel_rfl
theorem lives_true (w : World) : Calls Try.prog 9 #[] w fun e w' => e = .returned (.bool true) ∧ Below w.heap.size w w' := Ev.closed (by kernel_rfl) livesRuns w

set_option maxRecDepth 100000 in
set_option maxHeartbeats 4000000 in
theorem new_bad (nur old ng : Int) (w : World) (hb : ¬ (64 ≤ nur ∧ 64 ≤ old ∧ 0 ≤ ng)) (h1 : nur ≤ 2000) (h2 : old ≤ 2000) (h3 : ng ≤ 2000) :
    Calls Try.prog 13 #[.int .i64 nur, .int .i64 old, .int .i64 ng] w fun e w' => e = .returned (.tuple #[.pointer none, .int .i64 2]) ∧ Below w.heap.size w w' := by
  have k1 := fun W => fine_any nur W
  have k2 := fun W => fine_any old W
  rw [show (decide ((64 : Int) ≤ nur) && decide (nur ≤ 4194304)) = decide (64 ≤ nur) from by rw [show decide (nur ≤ 4194304) = true from by simp; omega]; simp] at k1
  rw [show (decide ((64 : Int) ≤ old) && decide (old ≤ 4194304)) = decide (64 ≤ old) from by rw [show decide (old ≤ 4194304) = true from by simp; omega]; simp] at k2
  have hc : ¬ 64 ≤ nur ∨ (64 ≤ nur ∧ ¬ 64 ≤ old) ∨ (64 ≤ nur ∧ 64 ≤ old ∧ ng < 0) := by omega
  rcases hc with c1 | ⟨c1, c2⟩ | ⟨c1, c2, c3⟩
  · rw [show decide (64 ≤ nur) = false from by simpa using c1] at k1
    have K1 := Lib.hid k1
    clear k1 k2 hb
    go_enter Try.func13, Try.ntmps13
    go_wp2_with (go_at_call 37; with_reducible refine (K1.out _).mono ?_; rintro e w1 ⟨rfl, rfl⟩)
    exact bodyPost_ret (v := .tuple #[.pointer none, .int .i64 2]) (by simp [results, Try.results13, go_sem]) rfl ⟨rfl, Below.refl _ _⟩
  · rw [show decide (64 ≤ nur) = true from by simpa using c1] at k1
    rw [show decide (64 ≤ old) = false from by simpa using c2] at k2
    have K1 := Lib.hid k1; have K2 := Lib.hid k2
    clear k1 k2 hb
    go_enter Try.func13, Try.ntmps13
    go_wp2_with (first | (go_at_call_of 37 (Value.int .i64 nur); with_reducible refine (K1.out _).mono ?_; rintro e w1 ⟨rfl, rfl⟩) | (go_at_call_of 37 (Value.int .i64 old); with_reducible refine (K2.out _).mono ?_; rintro e w2 ⟨rfl, rfl⟩))
    exact bodyPost_ret (v := .tuple #[.pointer none, .int .i64 2]) (by simp [results, Try.results13, go_sem]) rfl ⟨rfl, Below.refl _ _⟩
  · rw [show decide (64 ≤ nur) = true from by simpa using c1] at k1
    rw [show decide (64 ≤ old) = true from by simpa using c2] at k2
    have K1 := Lib.hid k1; have K2 := Lib.hid k2
    have d3 : decide (ng < 0) = true := by simpa using c3
    clear k1 k2 hb
    go_enter Try.func13, Try.ntmps13
    go_wp2_with (first | (go_at_call_of 37 (Value.int .i64 nur); with_reducible refine (K1.out _).mono ?_; rintro e w1 ⟨rfl, rfl⟩) | (go_at_call_of 37 (Value.int .i64 old); with_reducible refine (K2.out _).mono ?_; rintro e w2 ⟨rfl, rfl⟩))
    exact bodyPost_ret (v := .tuple #[.pointer none, .int .i64 2]) (by simp [results, Try.results13, go_sem]) rfl ⟨rfl, Below.refl _ _⟩

end Go.Proofs.Ytlmljommgmbckaa
