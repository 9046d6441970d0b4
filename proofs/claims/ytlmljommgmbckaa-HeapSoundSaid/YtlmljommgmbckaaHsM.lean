/- The contracts of starts, ptr, puts. -/
import Derived.Test.YtlmljommgmbckaaHsL
namespace Go.Proofs.Ytlmljommgmbckaa
open Go.RowKit
set_option linter.unusedSimpArgs false

theorem word_kind (H : HS) (l : List Int) (x : Wd) : (wordS H l x).1.1 = (derefS H x).1 := by
  unfold wordS
  split
  · rename_i k5
    split <;> exact k5.symm
  · rfl
theorem first_word {W : World} {base : Nat} {p : Option Addr} {n c : Nat} {xs : List (ObjS × Value)} {H : HS} {x : Wd} {us : List Wd} {N : Nat} (h : ObjsAt W base (.slice p n c) xs) (hn : n = xs.length) (hm : xs.map Prod.fst = (bfsN H (x :: us) N).2) :
    0 < n ∧ ∃ b o bw ow nw cw, p = some ⟨b, o, none⟩ ∧ W.cell? ⟨b, o + 2, none⟩ = some (.slice (some ⟨bw, ow, none⟩) nw cw) ∧ 0 < nw ∧ W.cell? ⟨bw, ow, none⟩ = some (.int .i64 (derefS H x).1) := by
  obtain ⟨r, hr⟩ := bfs_out H (x :: us) N
  rw [hr] at hm
  cases xs with
  | nil => simp at hm
  | cons y ys =>
    simp only [List.map_cons, List.cons.injEq] at hm
    obtain ⟨a, cap, e, _, hc, ho⟩ := h
    cases e
    obtain ⟨b, o, rfl, _, _, h3⟩ := hc (by simp)
    obtain ⟨_, _, q3⟩ := h3 0 y rfl
    have hw := (ho y List.mem_cons_self).1
    have hws : y.1.ws = (wordS H [] x).1 :: (allS H (wordS H [] x).2 us).1 := by rw [hm.1]; rfl
    rw [hws] at hw
    obtain ⟨aw, cw, ev, hcw⟩ := hw
    obtain ⟨bw, ow, rfl, _, h5⟩ := hcw (by simp)
    refine ⟨by simp, b, o, bw, ow, ((wordS H [] x).1 :: (allS H (wordS H [] x).2 us).1).length, cw, rfl, ?_, ?_, ?_⟩
    · have := q3
      rw [ev] at this
      simpa using this
    · simp
    · rw [← word_kind H [] x]
      have := h5 0 (.int .i64 (wordS H [] x).1.1) (by simp [flat])
      simpa using this

set_option maxRecDepth 100000 in
set_option maxHeartbeats 4000000 in
theorem ptr_any (a : Int) (w : World) : Calls Try.prog 26 #[.int .i64 a] w fun e w' => e = .returned (.agg #[.int .i64 5, .int .i64 a]) ∧ Below w.heap.size w w' := by
  go_enter Try.func26, Try.ntmps26
  go_wp2
  exact bodyPost_ret (v := .agg #[.int .i64 5, .int .i64 a]) (by simp [results, Try.results26, go_sem]) rfl ⟨rfl, (by ((repeat (first | exact Below.refl _ _ | (refine Below.alloc ?_ (by first | (simp [World.setCell]; done) | (simp [World.setCell]; omega)) _) | (refine Below.setCell ?_ (by first | (simp [World.setCell]; done) | (simp [World.setCell]; omega)) _) | refine Below.drew ?_ | (refine Below.trans ?_ ((below_drewN _ _).mono (by first | (simp [World.setCell]; done) | (simp [World.setCell]; omega))))))))⟩

set_option maxRecDepth 100000 in
set_option maxHeartbeats 4000000 in
theorem starts_true (p1 p2 : Option Addr) (n1 c1 n2 c2 : Nat) (ls fs : List Wd) (w : World) (h1 : WAt w (.slice p1 n1 c1) ls) (h2 : WAt w (.slice p2 n2 c2) fs) (e1 : ls.length = n1) (e2 : fs.length = n2) (hbd : n1 ≤ 100000000) (hh : ls = fs ∨ (fs = [] ∧ ls = [(0, 0)])) :
    Calls Try.prog 21 #[.slice p1 n1 c1, .slice p2 n2 c2] w fun e w' => e = .returned (.bool true) ∧ Below w.heap.size w w' := by
  have H1 := Lib.hid h1; have H2 := Lib.hid h2; have E1 := Lib.hid e1; have E2 := Lib.hid e2; have HH := Lib.hid hh
  have hle : n2 ≤ n1 := by
    rcases hh with rfl | ⟨rfl, rfl⟩
    · omega
    · simp at e2; omega
  clear h1 h2 e1 e2 hh
  go_enter Try.func21, Try.ntmps21
  go_wp2
  go_loopw [5] (fun i wr => ∃ k : Nat, i = .int .i64 k ∧ k ≤ n1 ∧ Below w.heap.size w wr) (fun i _ => n1 - (intOf i).toNat)
  case atStart => exact ⟨0, rfl, Nat.zero_le _, Below.refl _ _⟩
  case round =>
    obtain ⟨k, rfl, hk, hb⟩ := hrel
    by_cases hlt : k < n1
    · have hl1 : k < ls.length := by rw [E1.out]; exact hlt
      obtain ⟨x, hx⟩ : ∃ x, ls[k] = x := ⟨_, rfl⟩
      have hltI : (k : Int) < (n1 : Int) := by omega
      have HX := Lib.hid hx
      have HB := Lib.hid hb
      clear hx hb
      go_upto_region 5 with fail
      generalize hW5 : wr.alloc (Obj.cells #[.int .i64 0, .int .i64 0] 32) = W5
      have Z5 : Blk W5 wr.heap.size #[.int .i64 0, .int .i64 0] := by rw [← hW5]; exact Blk.new wr _ _
      have k5 : Below w.heap.size w W5 := by rw [← hW5]; exact HB.out.alloc HB.out.size _
      have hws := HB.out.size
      obtain ⟨bl, ol, q1, u0, u1⟩ := (H1.out.below k5 (Nat.le_refl _)).word k hl1
      rw [HX.out] at u0 u1
      have z5 := Z5.cell
      have zf := Z5.free
      have hzl := Z5.lt
      clear hW5
      by_cases hf : k < n2
      · have hl2 : k < fs.length := by rw [E2.out]; exact hf
        obtain ⟨bf, of, q2, v0, v1⟩ := (H2.out.below k5 (Nat.le_refl _)).word k hl2
        have hxy : fs[k] = x := by
          rcases HH.out with e | ⟨e, _⟩
          · subst e; exact HX.out
          · subst e; simp at hl2
        rw [hxy] at v0 v1
        have hfI : (k : Int) < (n2 : Int) := by omega
        have ZF := ((Z5.set 0 (.int .i64 x.1) (by simp)).set 1 (.int .i64 x.2) (by simp))
        have zc := ZF.cell
        have hpl1 : bl < w.heap.size := by
          rcases H1.out with ⟨a, cap, e, hc⟩
          obtain ⟨b', o', ea, hb', _⟩ := hc (by omega)
          cases e
          rw [ea] at q1
          cases q1
          exact hb'
        have hblw : bl ≠ wr.heap.size := by omega
        have k6 : Below w.heap.size w ((W5.setCell ⟨wr.heap.size, 0, none⟩ (.int .i64 x.1)).setCell ⟨wr.heap.size, 1, none⟩ (.int .i64 x.2)) := (k5.setCell (by simpa using hws) _).setCell (by simpa using hws) _
        have hoth : ∀ j, ((W5.setCell ⟨wr.heap.size, 0, none⟩ (.int .i64 x.1)).setCell ⟨wr.heap.size, 1, none⟩ (.int .i64 x.2)).cell? ⟨bl, j, none⟩ = W5.cell? ⟨bl, j, none⟩ := fun j => World.cell?_of_block ((Below.heap_setCell _ _ _ _ hblw).trans (Below.heap_setCell _ _ _ _ hblw))
        have u0' := (hoth _).trans u0
        have u1' := (hoth _).trans u1
        have HK6 := Lib.hid k6
        subst q1
        subst q2
        clear hxy k5 Z5 ZF hoth k6
        go_upto_region 7 with fail
        generalize ((W5.setCell ⟨wr.heap.size, 0, none⟩ (.int .i64 x.1)).setCell ⟨wr.heap.size, 1, none⟩ (.int .i64 x.2)) = W6 at zc u0' u1' HK6 ⊢
        go_quiet (fail)
        go_wp2
        go_roundw
        case rel => exact ⟨k + 1, by go_num, by omega, HK6.out.trans (below_drewN' _ _ HK6.out.size)⟩
        case measure => simp [intOf]; omega
      · have hx0 : x = (0, 0) := by
          rcases HH.out with e | ⟨e, e2⟩
          · subst e; have h1 := E1.out; have h2 := E2.out; omega
          · subst e2
            simp at hl1
            subst hl1
            exact HX.out.symm
        rw [hx0] at u0 u1
        have d1 : decide ((k : Int) < (n2 : Int)) = false := by simp; omega
        have HK5 := Lib.hid k5
        subst q1
        clear hx0 k5 Z5
        go_upto_region 7 with fail
        go_quiet (fail)
        go_wp2
        go_roundw
        case rel => exact ⟨k + 1, by go_num, by omega, HK5.out.trans (below_drewN' _ _ HK5.out.size)⟩
        case measure => simp [intOf]; omega
    · have hkn : k = n1 := by omega
      have d2 : decide ((n2 : Int) ≤ (n1 : Int)) = true := by simp; omega
      have HB := Lib.hid hb
      go_wp2
      go_ret
      exact ⟨rfl, HB.out⟩

end Go.Proofs.Ytlmljommgmbckaa
